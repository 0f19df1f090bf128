/- A heap of the mind: values, blocks and what stands for them in a world. Over any program. -/
import Derived.WalkKit
namespace Go.Proofs.Ytnmbbkhjbflojaa.Lh
set_option linter.unusedSimpArgs false
set_option linter.unusedVariables false
/-- A place: a block of the heap of the mind; rows gone into (offset, index, width); an offset. -/
structure LAddr where
  blk : Nat
  path : List (Nat × Nat × Nat)
  off : Nat
def pathSum : List (Nat × Nat × Nat) → Nat
  | [] => 0
  | (o, i, w) :: r => o + i * w + pathSum r
def LAddr.cell (a : LAddr) : Nat := pathSum a.path + a.off
mutual
inductive LVal where
  | undef
  | any
  | bool (b : Bool)
  | int (k : IntKind) (n : Int)
  | str (s : ByteArray)
  | nilp
  | ptr (a : LAddr)
  | slice (a : LAddr) (st w len lo : Nat) (hi : Option Nat)
  | nilf
  | func (f : FuncId) (cap : LVals)
  | nilI
  | iface (t : TypeId) (v : LVal)
  | agg (s : Segs)
  | tup (vs : LVals)
inductive LVals where
  | nil
  | cons (v : LVal) (r : LVals)
inductive Segs where
  | nil
  | one (v : LVal) (r : Segs)
  | rows (n w : Nat) (f : Nat → Segs) (r : Segs)
end
instance : Inhabited LVal := ⟨.undef⟩
/-- Where blocks lie: the world's block, the first cell, how many cells. -/
abbrev Pl := Nat → Option (Nat × Nat × Nat)
def notAgg (x : Value) : Prop := x.oneCell' = true
mutual
def PV (ρ : Pl) : LVal → Value → Prop
  | .undef, v => v = undef
  | .any, _ => True
  | .bool b, v => v = .bool b
  | .int k n, v => v = .int k n
  | .str s, v => v = .string s
  | .nilp, v => v = .pointer none
  | .ptr a, v => ∃ g b n, ρ a.blk = some (g, b, n) ∧ v = .pointer (some ⟨g, b + a.cell, none⟩)
  | .slice a st w len lo hi, v => ∃ p cap, v = .slice p len cap ∧ ((len = 0 ∧ lo = 0 ∧ cap = 0) ∨
      ∃ g b n, ρ a.blk = some (g, b, n) ∧ p = some ⟨g, b + (a.cell + st * w), none⟩ ∧ len ≤ lo ∧ lo ≤ cap ∧ (∀ h, hi = some h → cap ≤ h) ∧ a.cell + (st + cap) * w ≤ n)
  | .nilf, v => v = .nilFunc
  | .func f c, v => ∃ l, PVs ρ c l ∧ v = .func (.func f) #[] l.toArray
  | .nilI, v => v = .nilIface
  | .iface t x, v => ∃ y, PV ρ x y ∧ v = .iface t y
  | .agg s, v => ∃ l, PS ρ s l ∧ v = .agg l.toArray
  | .tup vs, v => ∃ l, PVs ρ vs l ∧ v = .tuple l.toArray
def PVs (ρ : Pl) : LVals → List Value → Prop
  | .nil, l => l = []
  | .cons v r, l => ∃ x l', l = x :: l' ∧ PV ρ v x ∧ PVs ρ r l'
def PS (ρ : Pl) : Segs → List Value → Prop
  | .nil, l => l = []
  | .one v r, l => ∃ x l', l = x :: l' ∧ PV ρ v x ∧ notAgg x ∧ PS ρ r l'
  | .rows n w f r, l => ∃ (ls : List (List Value)) (l' : List Value), l = ls.flatten ++ l' ∧ ls.length = n ∧ (∀ i, i < n → ∃ y, ls[i]? = some y ∧ y.length = w ∧ PS ρ (f i) y) ∧ PS ρ r l'
end
/-- More is placed. -/
def Ext (ρ ρ' : Pl) : Prop := ∀ b x, ρ b = some x → ρ' b = some x
theorem Ext.refl (ρ : Pl) : Ext ρ ρ := fun _ _ h => h
theorem Ext.trans {ρ ρ' ρ'' : Pl} (h : Ext ρ ρ') (h' : Ext ρ' ρ'') : Ext ρ ρ'' := fun b x e => h' b x (h b x e)
mutual
theorem PV.ext {ρ ρ' : Pl} (e : Ext ρ ρ') : ∀ (v : LVal) (x : Value), PV ρ v x → PV ρ' v x
  | .undef, _, h => h
  | .any, _, h => h
  | .bool _, _, h => h
  | .int _ _, _, h => h
  | .str _, _, h => h
  | .nilp, _, h => h
  | .ptr _, _, h => by
    obtain ⟨g, b, n, h1, h2⟩ := h
    exact ⟨g, b, n, e _ _ h1, h2⟩
  | .slice _ _ _ _ _ _, _, h => by
    obtain ⟨p, cap, h1, h2 | ⟨g, b, n, h2, h3⟩⟩ := h
    · exact ⟨p, cap, h1, .inl h2⟩
    · exact ⟨p, cap, h1, .inr ⟨g, b, n, e _ _ h2, h3⟩⟩
  | .nilf, _, h => h
  | .func _ c, _, h => by
    obtain ⟨l, h1, h2⟩ := h
    exact ⟨l, PVs.ext e c l h1, h2⟩
  | .nilI, _, h => h
  | .iface _ x, _, h => by
    obtain ⟨y, h1, h2⟩ := h
    exact ⟨y, PV.ext e x y h1, h2⟩
  | .agg s, _, h => by
    obtain ⟨l, h1, h2⟩ := h
    exact ⟨l, PS.ext e s l h1, h2⟩
  | .tup vs, _, h => by
    obtain ⟨l, h1, h2⟩ := h
    exact ⟨l, PVs.ext e vs l h1, h2⟩
theorem PVs.ext {ρ ρ' : Pl} (e : Ext ρ ρ') : ∀ (v : LVals) (l : List Value), PVs ρ v l → PVs ρ' v l
  | .nil, _, h => h
  | .cons v r, _, h => by
    obtain ⟨x, l', h1, h2, h3⟩ := h
    exact ⟨x, l', h1, PV.ext e v x h2, PVs.ext e r l' h3⟩
theorem PS.ext {ρ ρ' : Pl} (e : Ext ρ ρ') : ∀ (s : Segs) (l : List Value), PS ρ s l → PS ρ' s l
  | .nil, _, h => h
  | .one v r, _, h => by
    obtain ⟨x, l', h1, h2, h3, h4⟩ := h
    exact ⟨x, l', h1, PV.ext e v x h2, h3, PS.ext e r l' h4⟩
  | .rows n w f r, _, h => by
    obtain ⟨ls, l', h1, h2, h3, h4⟩ := h
    exact ⟨ls, l', h1, h2, fun i hi => (h3 i hi).elim fun y hy => ⟨y, hy.1, hy.2.1, PS.ext e (f i) y hy.2.2⟩, PS.ext e r l' h4⟩
end
/-- A block's content. 'more': cells may stand behind those that are told; 'ro': it is read alone. -/
structure LObj where
  segs : Segs
  ty : TypeId
  more : Bool
  ro : Bool
abbrev LHeap := List (Option LObj)
def hget : LHeap → Nat → Option LObj
  | [], _ => none
  | x :: _, 0 => x
  | _ :: r, n + 1 => hget r n
def hset : LHeap → Nat → Option LObj → LHeap
  | [], 0, o => [o]
  | [], n + 1, o => none :: hset [] n o
  | _ :: r, 0, o => o :: r
  | x :: r, n + 1, o => x :: hset r n o
theorem hget_hset (h : LHeap) (n : Nat) (o : Option LObj) (i : Nat) : hget (hset h n o) i = if i = n then o else hget h i := by
  induction n generalizing h i with
  | zero => cases h <;> cases i <;> simp [hset, hget]
  | succ n ih =>
    cases h with
    | nil => cases i <;> simp [hset, hget, ih]
    | cons x r => cases i <;> simp [hset, hget, ih]
theorem hget_out (h : LHeap) (n : Nat) (hn : h.length ≤ n) : hget h n = none := by
  induction h generalizing n with
  | nil => rfl
  | cons x r ih =>
    cases n with
    | zero => simp at hn
    | succ n => exact ih n (by simpa using hn)
def unfrozen (fr : Nat × Nat) (n : Nat) : Prop := ∀ i, i < n → ¬ (fr.1 ≤ i ∧ i < fr.2)
def PO (ρ : Pl) (b n : Nat) (o : LObj) (ob : Obj) : Prop :=
  ∃ pre l ex fr, ob = .cells (pre ++ l ++ ex).toArray o.ty fr ∧ PS ρ o.segs l ∧ (o.more = false → ex = []) ∧ pre.length = b ∧ n = (l ++ ex).length ∧ (o.ro = false → unfrozen fr (pre ++ l ++ ex).length)
theorem PO.ext {ρ ρ' : Pl} (e : Ext ρ ρ') {b n : Nat} {o : LObj} {ob : Obj} (h : PO ρ b n o ob) : PO ρ' b n o ob := by
  obtain ⟨pre, l, ex, fr, h1, h2, h3⟩ := h
  exact ⟨pre, l, ex, fr, h1, PS.ext e _ _ h2, h3⟩
/-- What stands for a heap of the mind in a world. T false: the blocks that may be touched; T true: those that are read alone; w0: the world as it was. -/
structure Sim (T : Bool → Nat → Prop) (w0 : World) (ρ : Pl) (h : LHeap) (w : World) : Prop where
  obj : ∀ i o, hget h i = some o → (∃ g b n ob, ρ i = some (g, b, n) ∧ w.heap[g]? = some ob ∧ PO ρ b n o ob ∧ T o.ro g) ∨ (ρ i = none ∧ PS ρ o.segs [])
  inj : ∀ i j oi oj g b n b' m, hget h i = some oi → hget h j = some oj → ρ i = some (g, b, n) → ρ j = some (g, b', m) → T false g → i = j
  lt : ∀ i g b n, ρ i = some (g, b, n) → g < w.heap.size
  os : w.os = w0.os
  tape : w.tape = w0.tape
  output : w.output = w0.output
  size : w0.heap.size ≤ w.heap.size
  kept : ∀ k, ¬ T false k → w.heap[k]? = w0.heap[k]?
  new : ∀ k, w0.heap.size ≤ k → T false k
  apart : ∀ k, T true k → ¬ T false k
/-- A block is placed anew. -/
def Pl.put (ρ : Pl) (n : Nat) (x : Nat × Nat × Nat) : Pl := fun i => if i = n then some x else ρ i
theorem Pl.put_ext {ρ : Pl} {n : Nat} (h : ρ n = none) (x : Nat × Nat × Nat) : Ext ρ (ρ.put n x) := by
  intro b y hb
  unfold Pl.put
  by_cases e : b = n
  · subst e; rw [h] at hb; cases hb
  · rw [if_neg e]; exact hb
section
variable {T : Bool → Nat → Prop} {w0 : World} {ρ : Pl} {h : LHeap} {w : World}
theorem Sim.drew (s : Sim T w0 ρ h w) : Sim T w0 ρ h w.drew :=
  ⟨s.obj, s.inj, s.lt, s.os, s.tape, s.output, s.size, s.kept, s.new, s.apart⟩
theorem alloc_get (w : World) (o : Obj) (k : Nat) : (w.alloc o).heap[k]? = if k = w.heap.size then some o else w.heap[k]? := by
  unfold World.alloc
  simp only [Array.getElem?_push]
/-- A new block. -/
theorem Sim.alloc (s : Sim T w0 ρ h w) {n : Nat} (hn : ρ n = none) (hh : hget h n = none) {o : LObj} (hro : o.ro = false) {l ex : List Value} {fr : Nat × Nat} {c : Array Value} (hc : c = (l ++ ex).toArray) (hl : PS ρ o.segs l) (hm : o.more = false → ex = []) (hf : unfrozen fr (l ++ ex).length) :
    Sim T w0 (ρ.put n (w.heap.size, 0, (l ++ ex).length)) (hset h n (some o)) (w.alloc (.cells c o.ty fr)) := by
  subst hc
  have e := Pl.put_ext hn (w.heap.size, 0, (l ++ ex).length)
  have hT : T false w.heap.size := s.new _ s.size
  refine ⟨?_, ?_, ?_, s.os, s.tape, s.output, ?_, ?_, s.new, s.apart⟩
  · intro i oi hi
    rw [hget_hset] at hi
    by_cases c : i = n
    · subst c
      rw [if_pos rfl] at hi
      cases hi
      refine .inl ⟨_, _, _, _, by unfold Pl.put; rw [if_pos rfl], by rw [alloc_get, if_pos rfl], ?_, hro ▸ hT⟩
      exact ⟨[], l, ex, fr, by simp, PS.ext e _ _ hl, hm, rfl, rfl, fun _ => by simpa using hf⟩
    · rw [if_neg c] at hi
      rcases s.obj i oi hi with ⟨g, b, m, ob, h1, h2, h3, h4⟩ | ⟨h1, h2⟩
      · refine .inl ⟨g, b, m, ob, e _ _ h1, ?_, h3.ext e, h4⟩
        rw [alloc_get, if_neg (by have := s.lt _ _ _ _ h1; omega)]
        exact h2
      · exact .inr ⟨by unfold Pl.put; rw [if_neg c]; exact h1, PS.ext e _ _ h2⟩
  · intro i j oi oj g b m b' m' hi hj h1 h2 hTg
    rw [hget_hset] at hi hj
    unfold Pl.put at h1 h2
    by_cases ci : i = n <;> by_cases cj : j = n
    · rw [ci, cj]
    · rw [if_pos ci] at h1; rw [if_neg cj] at h2
      cases h1
      have := s.lt _ _ _ _ h2
      omega
    · rw [if_neg ci] at h1; rw [if_pos cj] at h2
      cases h2
      have := s.lt _ _ _ _ h1
      omega
    · rw [if_neg ci] at h1 hi; rw [if_neg cj] at h2 hj
      exact s.inj i j oi oj g b m b' m' hi hj h1 h2 hTg
  · intro i g b m h1
    unfold Pl.put at h1
    rw [World.size_alloc]
    by_cases ci : i = n
    · rw [if_pos ci] at h1; cases h1; omega
    · rw [if_neg ci] at h1
      have := s.lt _ _ _ _ h1
      omega
  · rw [World.size_alloc]; have := s.size; omega
  · intro k hk
    rw [alloc_get, if_neg (by intro c; subst c; exact hk hT)]
    exact s.kept k hk
/-- A block is known no more. -/
theorem Sim.kill (s : Sim T w0 ρ h w) (n : Nat) : Sim T w0 ρ (hset h n none) w := by
  refine ⟨?_, ?_, s.lt, s.os, s.tape, s.output, s.size, s.kept, s.new, s.apart⟩
  · intro i o hi
    rw [hget_hset] at hi
    by_cases c : i = n
    · rw [if_pos c] at hi; cases hi
    · rw [if_neg c] at hi; exact s.obj i o hi
  · intro i j oi oj g b m b' m' hi hj
    rw [hget_hset] at hi hj
    by_cases ci : i = n
    · rw [if_pos ci] at hi; cases hi
    · by_cases cj : j = n
      · rw [if_pos cj] at hj; cases hj
      · rw [if_neg ci] at hi; rw [if_neg cj] at hj; exact s.inj i j oi oj g b m b' m' hi hj
/-- A block's content is turned. -/
theorem Sim.turn (s : Sim T w0 ρ h w) {n : Nat} {o o' : LObj} (hro : o.ro = false) (hro' : o'.ro = false) (ho : hget h n = some o) {g b m : Nat} (hp : ρ n = some (g, b, m)) {ob' : Obj} (hPO : PO ρ b m o' ob') {w' : World} (hg : w'.heap[g]? = some ob')
    (hsz : w'.heap.size = w.heap.size) (hk : ∀ k, k ≠ g → w'.heap[k]? = w.heap[k]?) (e1 : w'.os = w.os) (e2 : w'.tape = w.tape) (e3 : w'.output = w.output) : Sim T w0 ρ (hset h n (some o')) w' := by
  have hT : T false g := by
    rcases s.obj n o ho with ⟨g', b', n', ob, h1, h2, h3, h4⟩ | ⟨h1, _⟩
    · rw [hp] at h1; cases h1; rw [hro] at h4; exact h4
    · rw [hp] at h1; cases h1
  refine ⟨?_, ?_, ?_, e1.trans s.os, e2.trans s.tape, e3.trans s.output, by rw [hsz]; exact s.size, ?_, s.new, s.apart⟩
  · intro i oi hi
    rw [hget_hset] at hi
    by_cases c : i = n
    · subst c
      rw [if_pos rfl] at hi
      cases hi
      exact .inl ⟨g, b, m, ob', hp, hg, hPO, hro' ▸ hT⟩
    · rw [if_neg c] at hi
      rcases s.obj i oi hi with ⟨g', b', n', ob, h1, h2, h3, h4⟩ | hr
      · refine .inl ⟨g', b', n', ob, h1, ?_, h3, h4⟩
        rw [hk g' (by intro e; subst e; exact c (s.inj i n oi o g' b' n' b m hi ho h1 hp hT))]
        exact h2
      · exact .inr hr
  · intro i j oi oj g1 b1 n1 b2 n2 hi hj h1 h2 hTg
    rw [hget_hset] at hi hj
    have fi : ∃ x, hget h i = some x := by
      by_cases c : i = n
      · subst c; exact ⟨o, ho⟩
      · rw [if_neg c] at hi; exact ⟨_, hi⟩
    have fj : ∃ x, hget h j = some x := by
      by_cases c : j = n
      · subst c; exact ⟨o, ho⟩
      · rw [if_neg c] at hj; exact ⟨_, hj⟩
    obtain ⟨x, hx⟩ := fi
    obtain ⟨y, hy⟩ := fj
    exact s.inj i j x y g1 b1 n1 b2 n2 hx hy h1 h2 hTg
  · intro i g1 b1 n1 h1
    rw [hsz]
    exact s.lt i g1 b1 n1 h1
  · intro k hk'
    rw [hk k (by intro e; subst e; exact hk' hT)]
    exact s.kept k hk'
/-- A dead block's place is another block's. -/
theorem Sim.inherit (s : Sim T w0 ρ h w) {n n' : Nat} {o : LObj} (hro : o.ro = false) (ho : hget h n = some o) {g b m : Nat} (hp : ρ n = some (g, b, m)) (hn : ρ n' = none) (hh : hget h n' = none) {b' m' : Nat} {o' : LObj} (hro' : o'.ro = false) {ob : Obj} (hg : w.heap[g]? = some ob) (hPO : PO ρ b' m' o' ob) :
    Sim T w0 (ρ.put n' (g, b', m')) (hset (hset h n none) n' (some o')) w := by
  have e := Pl.put_ext hn (g, b', m')
  have hne : n ≠ n' := by intro c; subst c; rw [ho] at hh; cases hh
  have hT : T false g := by
    rcases s.obj n o ho with ⟨g', b'', n'', ob, h1, h2, h3, h4⟩ | ⟨h1, _⟩
    · rw [hp] at h1; cases h1; rw [hro] at h4; exact h4
    · rw [hp] at h1; cases h1
  refine ⟨?_, ?_, ?_, s.os, s.tape, s.output, s.size, s.kept, s.new, s.apart⟩
  · intro i oi hi
    rw [hget_hset, hget_hset] at hi
    by_cases c : i = n'
    · subst c
      rw [if_pos rfl] at hi
      cases hi
      exact .inl ⟨g, b', m', ob, by unfold Pl.put; rw [if_pos rfl], hg, hPO.ext e, hro' ▸ hT⟩
    · rw [if_neg c] at hi
      by_cases c2 : i = n
      · rw [if_pos c2] at hi; cases hi
      · rw [if_neg c2] at hi
        rcases s.obj i oi hi with ⟨g', b'', n'', ob, h1, h2, h3, h4⟩ | ⟨h1, h2⟩
        · exact .inl ⟨g', b'', n'', ob, e _ _ h1, h2, h3.ext e, h4⟩
        · exact .inr ⟨by unfold Pl.put; rw [if_neg c]; exact h1, PS.ext e _ _ h2⟩
  · intro i j oi oj g1 b1 n1 b2 n2 hi hj h1 h2 hTg
    rw [hget_hset, hget_hset] at hi hj
    unfold Pl.put at h1 h2
    by_cases ci : i = n' <;> by_cases cj : j = n'
    · rw [ci, cj]
    · rw [if_pos ci] at h1; rw [if_neg cj] at h2 hj
      cases h1
      by_cases c2 : j = n
      · rw [if_pos c2] at hj; cases hj
      · rw [if_neg c2] at hj; exact absurd (s.inj j n oj o g b2 n2 b m hj ho h2 hp hT) c2
    · rw [if_neg ci] at h1 hi; rw [if_pos cj] at h2
      cases h2
      by_cases c2 : i = n
      · rw [if_pos c2] at hi; cases hi
      · rw [if_neg c2] at hi; exact absurd (s.inj i n oi o g b1 n1 b m hi ho h1 hp hT) c2
    · rw [if_neg ci] at h1 hi; rw [if_neg cj] at h2 hj
      by_cases c2 : i = n
      · rw [if_pos c2] at hi; cases hi
      · by_cases c3 : j = n
        · rw [if_pos c3] at hj; cases hj
        · rw [if_neg c2] at hi; rw [if_neg c3] at hj
          exact s.inj i j oi oj g1 b1 n1 b2 n2 hi hj h1 h2 hTg
  · intro i g1 b1 n1 h1
    unfold Pl.put at h1
    by_cases ci : i = n'
    · rw [if_pos ci] at h1; cases h1; exact s.lt n g b m hp
    · rw [if_neg ci] at h1; exact s.lt i g1 b1 n1 h1
/-- A block without cells need not be placed. -/
theorem Sim.empty (s : Sim T w0 ρ h w) {n : Nat} (hn : ρ n = none) (hh : hget h n = none) {o : LObj} (hl : PS ρ o.segs []) : Sim T w0 ρ (hset h n (some o)) w := by
  refine ⟨?_, ?_, s.lt, s.os, s.tape, s.output, s.size, s.kept, s.new, s.apart⟩
  · intro i oi hi
    rw [hget_hset] at hi
    by_cases c : i = n
    · subst c; rw [if_pos rfl] at hi; cases hi; exact .inr ⟨hn, hl⟩
    · rw [if_neg c] at hi; exact s.obj i oi hi
  · intro i j oi oj g b m b' m' hi hj h1 h2 hTg
    rw [hget_hset] at hi hj
    by_cases ci : i = n
    · subst ci; rw [hn] at h1; cases h1
    · by_cases cj : j = n
      · subst cj; rw [hn] at h2; cases h2
      · rw [if_neg ci] at hi; rw [if_neg cj] at hj; exact s.inj i j oi oj g b m b' m' hi hj h1 h2 hTg
end
end Go.Proofs.Ytnmbbkhjbflojaa.Lh
