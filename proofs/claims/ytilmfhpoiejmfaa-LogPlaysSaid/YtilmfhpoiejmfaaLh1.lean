/- A heap of the mind: values, blocks and what stands for them in a world. Over any program. -/
import Derived.WalkKit
namespace Go.Proofs.Ytilmfhpoiejmfaa.Lh
set_option linter.unusedSimpArgs false
set_option linter.unusedVariables false
set_option linter.unusedSectionVars false
/-- A place: a block of the heap of the mind; rows gone into (offset, index, width); an offset. -/
structure LAddr where
  blk : Nat
  path : List (Nat × Nat × Nat)
  off : Nat
def pathSum : List (Nat × Nat × Nat) → Nat
  | [] => 0
  | (o, i, w) :: r => o + i * w + pathSum r
def LAddr.cell (a : LAddr) : Nat := pathSum a.path + a.off
/-- Where things lie. at_: a block of the mind: the world's block, the first cell, how many cells; fz: the world's blocks that nobody writes any more; tk: a token's block and cell. -/
structure Pl where
  at_ : Nat → Option (Nat × Nat × Nat)
  fz : Nat → Option Obj
  tk : Nat → Option (Nat × Nat)
instance : CoeFun Pl (fun _ => Nat → Option (Nat × Nat × Nat)) := ⟨Pl.at_⟩
/-- More is still, more tokens are known. -/
def ExtR (ρ ρ' : Pl) : Prop := (∀ g o, ρ.fz g = some o → ρ'.fz g = some o) ∧ ∀ k g, ρ.tk k = some g → ρ'.tk k = some g
/-- An assertion of a part of the world, by the numbers of its blocks. -/
structure Asn where
  holds : Pl → World → (Nat → Prop) → Prop
  ext : ∀ {ρ ρ' : Pl} {w : World} {F : Nat → Prop}, ExtR ρ ρ' → holds ρ w F → holds ρ' w F
  loc : ∀ {ρ : Pl} {w w' : World} {F : Nat → Prop}, w.heap.size ≤ w'.heap.size → (∀ k, F k → w'.heap[k]? = w.heap[k]?) → holds ρ w F → holds ρ w' F
mutual
inductive LVal where
  | undef
  | any
  | bool (b : Bool)
  | int (k : IntKind) (n : Int)
  | str (s : ByteArray)
  | nilp
  | ptr (a : LAddr)
  | slice (a : LAddr) (st w len lo : Nat) (hi : Option Nat)
  | nilf
  | func (f : FuncId) (cap : LVals)
  | nilI
  | iface (t : TypeId) (v : LVal)
  | agg (s : Segs)
  | tup (vs : LVals)
  | rsl (n w : Nat) (f : Nat → Segs)
  | rptr (s : Segs)
  | tok (k : Nat)
  | gl (g : Nat)
  | yld (l : Nat) (tm : List Value) (ts : LVals)
inductive LVals where
  | nil
  | cons (v : LVal) (r : LVals)
inductive Segs where
  | nil
  | one (v : LVal) (r : Segs)
  | rows (n w : Nat) (f : Nat → Segs) (r : Segs)
  | res (A : Asn)
end
instance : Inhabited LVal := ⟨.undef⟩
theorem mul_lt {i n : Nat} (w : Nat) (h : i < n) : i * w + w ≤ n * w := by
  have := Nat.mul_le_mul_right w (show i + 1 ≤ n from h)
  rw [Nat.add_mul] at this; omega
/-- What variables of packages hold, of those that are read alone: by their numbers. -/
class Fz where
  glob : Nat → Option Segs
variable [Fz]
/-- Cells that are read alone. -/
def Frz (ρ : Pl) (g off : Nat) (l : List Value) : Prop := ∃ C ty fr, ρ.fz g = some (.cells C ty fr) ∧ off ≤ C.size ∧ ∃ r, C.toList.drop off = l ++ r
/-- No block of the mind. -/
def Pl.clo (ρ : Pl) : Pl := ⟨fun _ => none, ρ.fz, ρ.tk⟩
def notAgg (x : Value) : Prop := x.oneCell' = true
mutual
def PV (ρ : Pl) : LVal → Value → Prop
  | .undef, v => v = undef
  | .any, _ => True
  | .bool b, v => v = .bool b
  | .int k n, v => v = .int k n
  | .str s, v => v = .string s
  | .nilp, v => v = .pointer none
  | .ptr a, v => ∃ g b n, ρ a.blk = some (g, b, n) ∧ v = .pointer (some ⟨g, b + a.cell, none⟩)
  | .slice a st w len lo hi, v => ∃ p cap, v = .slice p len cap ∧ ((len = 0 ∧ lo = 0 ∧ cap = 0) ∨
      ∃ g b n, ρ a.blk = some (g, b, n) ∧ p = some ⟨g, b + (a.cell + st * w), none⟩ ∧ len ≤ lo ∧ lo ≤ cap ∧ (∀ h, hi = some h → cap ≤ h) ∧ a.cell + (st + cap) * w ≤ n)
  | .nilf, v => v = .nilFunc
  | .func f c, v => ∃ l, PVs ρ c l ∧ v = .func (.func f) #[] l.toArray
  | .nilI, v => v = .nilIface
  | .iface t x, v => ∃ y, PV ρ x y ∧ v = .iface t y
  | .agg s, v => ∃ l, PS ρ s l ∧ v = .agg l.toArray
  | .tup vs, v => ∃ l, PVs ρ vs l ∧ v = .tuple l.toArray
  | .rsl n w f, v => ∃ p cap, v = .slice p n cap ∧ n ≤ cap ∧ (n = 0 ∨ ∃ g off l, p = some ⟨g, off, none⟩ ∧ Frz ρ g off l ∧ l.length = n * w ∧ ∀ i, i < n → PS ρ.clo (f i) ((l.drop (i * w)).take w))
  | .rptr s, v => ∃ g off l, v = .pointer (some ⟨g, off, none⟩) ∧ Frz ρ g off l ∧ PS ρ.clo s l
  | .tok k, v => ∃ g, ρ.tk k = some g ∧ v = .pointer (some ⟨g.1, g.2, none⟩)
  | .gl g, v => v = .pointer (some ⟨g, 0, none⟩)
  | .yld l tm ts, v => v = .func (.yield l) #[] #[] ∧ PVs ρ ts tm
def PVs (ρ : Pl) : LVals → List Value → Prop
  | .nil, l => l = []
  | .cons v r, l => ∃ x l', l = x :: l' ∧ PV ρ v x ∧ PVs ρ r l'
def PS (ρ : Pl) : Segs → List Value → Prop
  | .nil, l => l = []
  | .one v r, l => ∃ x l', l = x :: l' ∧ PV ρ v x ∧ notAgg x ∧ PS ρ r l'
  | .rows n w f r, l => ∃ (ls : List (List Value)) (l' : List Value), l = ls.flatten ++ l' ∧ ls.length = n ∧ (∀ i, i < n → ∃ y, ls[i]? = some y ∧ y.length = w ∧ PS ρ (f i) y) ∧ PS ρ r l'
  | .res _, _ => False
end
/-- More is placed. -/
structure Ext (ρ ρ' : Pl) : Prop where
  at_ : ∀ b x, ρ b = some x → ρ' b = some x
  r : ExtR ρ ρ'
theorem ExtR.refl (ρ : Pl) : ExtR ρ ρ := ⟨fun _ _ h => h, fun _ _ h => h⟩
theorem ExtR.trans {ρ ρ' ρ'' : Pl} (h : ExtR ρ ρ') (h' : ExtR ρ' ρ'') : ExtR ρ ρ'' := ⟨fun b x e => h'.1 b x (h.1 b x e), fun b x e => h'.2 b x (h.2 b x e)⟩
theorem Ext.refl (ρ : Pl) : Ext ρ ρ := ⟨fun _ _ h => h, .refl ρ⟩
theorem Ext.trans {ρ ρ' ρ'' : Pl} (h : Ext ρ ρ') (h' : Ext ρ' ρ'') : Ext ρ ρ'' := ⟨fun b x e => h'.at_ b x (h.at_ b x e), h.r.trans h'.r⟩
theorem Ext.clo {ρ ρ' : Pl} (h : ExtR ρ ρ') : Ext ρ.clo ρ'.clo := ⟨fun _ _ h => h, h⟩
theorem Frz.ext {ρ ρ' : Pl} (e : ExtR ρ ρ') {g off : Nat} {l : List Value} (h : Frz ρ g off l) : Frz ρ' g off l := by
  obtain ⟨C, ty, fr, h1, h2⟩ := h
  exact ⟨C, ty, fr, e.1 _ _ h1, h2⟩
mutual
theorem PV.ext {ρ ρ' : Pl} (e : Ext ρ ρ') : ∀ (v : LVal) (x : Value), PV ρ v x → PV ρ' v x
  | .undef, _, h => h
  | .any, _, h => h
  | .bool _, _, h => h
  | .int _ _, _, h => h
  | .str _, _, h => h
  | .nilp, _, h => h
  | .ptr _, _, h => by
    obtain ⟨g, b, n, h1, h2⟩ := h
    exact ⟨g, b, n, e.at_ _ _ h1, h2⟩
  | .slice _ _ _ _ _ _, _, h => by
    obtain ⟨p, cap, h1, h2 | ⟨g, b, n, h2, h3⟩⟩ := h
    · exact ⟨p, cap, h1, .inl h2⟩
    · exact ⟨p, cap, h1, .inr ⟨g, b, n, e.at_ _ _ h2, h3⟩⟩
  | .nilf, _, h => h
  | .func _ c, _, h => by
    obtain ⟨l, h1, h2⟩ := h
    exact ⟨l, PVs.ext e c l h1, h2⟩
  | .nilI, _, h => h
  | .iface _ x, _, h => by
    obtain ⟨y, h1, h2⟩ := h
    exact ⟨y, PV.ext e x y h1, h2⟩
  | .agg s, _, h => by
    obtain ⟨l, h1, h2⟩ := h
    exact ⟨l, PS.ext e s l h1, h2⟩
  | .tup vs, _, h => by
    obtain ⟨l, h1, h2⟩ := h
    exact ⟨l, PVs.ext e vs l h1, h2⟩
  | .rsl _ _ f, _, h => by
    obtain ⟨p, cap, h1, h2, h3⟩ := h
    exact ⟨p, cap, h1, h2, h3.imp id fun ⟨g, off, l, h4, h5, h6, h7⟩ => ⟨g, off, l, h4, h5.ext e.r, h6, fun i hi => PS.ext (Ext.clo e.r) (f i) _ (h7 i hi)⟩⟩
  | .rptr s, _, h => by
    obtain ⟨g, off, l, h4, h5, h6⟩ := h
    exact ⟨g, off, l, h4, h5.ext e.r, PS.ext (Ext.clo e.r) s l h6⟩
  | .tok _, _, h => by
    obtain ⟨g, h1, h2⟩ := h
    exact ⟨g, e.r.2 _ _ h1, h2⟩
  | .gl _, _, h => h
  | .yld _ _ ts, _, h => ⟨h.1, PVs.ext e ts _ h.2⟩
theorem PVs.ext {ρ ρ' : Pl} (e : Ext ρ ρ') : ∀ (v : LVals) (l : List Value), PVs ρ v l → PVs ρ' v l
  | .nil, _, h => h
  | .cons v r, _, h => by
    obtain ⟨x, l', h1, h2, h3⟩ := h
    exact ⟨x, l', h1, PV.ext e v x h2, PVs.ext e r l' h3⟩
theorem PS.ext {ρ ρ' : Pl} (e : Ext ρ ρ') : ∀ (s : Segs) (l : List Value), PS ρ s l → PS ρ' s l
  | .nil, _, h => h
  | .one v r, _, h => by
    obtain ⟨x, l', h1, h2, h3, h4⟩ := h
    exact ⟨x, l', h1, PV.ext e v x h2, h3, PS.ext e r l' h4⟩
  | .rows n w f r, _, h => by
    obtain ⟨ls, l', h1, h2, h3, h4⟩ := h
    exact ⟨ls, l', h1, h2, fun i hi => (h3 i hi).elim fun y hy => ⟨y, hy.1, hy.2.1, PS.ext e (f i) y hy.2.2⟩, PS.ext e r l' h4⟩
  | .res _, _, h => h
end
/-- A block's content. 'more': cells may stand behind those that are told; 'ro': it is read alone. -/
structure LObj where
  segs : Segs
  ty : TypeId
  more : Bool
  ro : Bool
/-- Nothing lies there, or what is asserted. -/
def Emp (ρ : Pl) (o : LObj) : Prop := PS ρ o.segs [] ∨ (o.ro = true ∧ ∃ A, o.segs = .res A)
theorem Emp.ext {ρ ρ' : Pl} (e : Ext ρ ρ') {o : LObj} (h : Emp ρ o) : Emp ρ' o := h.imp (PS.ext e _ _) id
theorem Emp.ps {ρ : Pl} {o : LObj} (h : Emp ρ o) (hro : o.ro = false) : PS ρ o.segs [] := h.elim id (fun h => by rw [hro] at h; cases h.1)
abbrev LHeap := List (Option LObj)
def hget : LHeap → Nat → Option LObj
  | [], _ => none
  | x :: _, 0 => x
  | _ :: r, n + 1 => hget r n
def hset : LHeap → Nat → Option LObj → LHeap
  | [], 0, o => [o]
  | [], n + 1, o => none :: hset [] n o
  | _ :: r, 0, o => o :: r
  | x :: r, n + 1, o => x :: hset r n o
theorem hget_hset (h : LHeap) (n : Nat) (o : Option LObj) (i : Nat) : hget (hset h n o) i = if i = n then o else hget h i := by
  induction n generalizing h i with
  | zero => cases h <;> cases i <;> simp [hset, hget]
  | succ n ih =>
    cases h with
    | nil => cases i <;> simp [hset, hget, ih]
    | cons x r => cases i <;> simp [hset, hget, ih]
theorem hget_out (h : LHeap) (n : Nat) (hn : h.length ≤ n) : hget h n = none := by
  induction h generalizing n with
  | nil => rfl
  | cons x r ih =>
    cases n with
    | zero => simp at hn
    | succ n => exact ih n (by simpa using hn)
def unfrozen (fr : Nat × Nat) (n : Nat) : Prop := (∀ i, i < n → ¬ (fr.1 ≤ i ∧ i < fr.2)) ∧ fr.1 ≤ fr.2
def PO (ρ : Pl) (b n : Nat) (o : LObj) (ob : Obj) : Prop :=
  ∃ pre l ex fr, ob = .cells (pre ++ l ++ ex).toArray o.ty fr ∧ PS ρ o.segs l ∧ (o.more = false → ex = [] ∧ pre = []) ∧ pre.length = b ∧ n = (l ++ ex).length ∧ (o.ro = false → unfrozen fr (pre ++ l ++ ex).length)
theorem PO.ext {ρ ρ' : Pl} (e : Ext ρ ρ') {b n : Nat} {o : LObj} {ob : Obj} (h : PO ρ b n o ob) : PO ρ' b n o ob := by
  obtain ⟨pre, l, ex, fr, h1, h2, h3⟩ := h
  exact ⟨pre, l, ex, fr, h1, PS.ext e _ _ h2, h3⟩
/-- 0: blocks that may be touched; 1: that are read alone; 2: that stood still ahead of all. -/
def tag : Bool → Nat
  | false => 0
  | true => 1
/-- What the assertions among a heap's blocks speak of: each of a part of its own. -/
structure Rsc (T : Nat → Nat → Prop) (ρ : Pl) (h : LHeap) (w : World) (Fs : Nat → Nat → Prop) : Prop where
  holds : ∀ i o A, hget h i = some o → o.segs = .res A → A.holds ρ w (Fs i)
  mine : ∀ i o A k, hget h i = some o → o.segs = .res A → Fs i k → T 0 k ∧ ρ.fz k = none ∧ k < w.heap.size
  apart : ∀ i j oi oj A B k, hget h i = some oi → oi.segs = .res A → hget h j = some oj → oj.segs = .res B → Fs i k → Fs j k → i = j
  off : ∀ i j oi oj A g b n, hget h i = some oi → oi.segs = .res A → hget h j = some oj → ρ j = some (g, b, n) → ¬ Fs i g
/-- What stands for a heap of the mind in a world. T: what may be done with a block ('tag'); w0: the world as it was. -/
structure Sim (T : Nat → Nat → Prop) (w0 : World) (ρ : Pl) (h : LHeap) (w : World) : Prop where
  obj : ∀ i o, hget h i = some o → (∃ g b n ob, ρ i = some (g, b, n) ∧ w.heap[g]? = some ob ∧ PO ρ b n o ob ∧ T (tag o.ro) g) ∨ (ρ i = none ∧ Emp ρ o)
  inj : ∀ i j oi oj g b n b' m, hget h i = some oi → hget h j = some oj → ρ i = some (g, b, n) → ρ j = some (g, b', m) → T 0 g → i = j
  lt : ∀ i g b n, ρ i = some (g, b, n) → g < w.heap.size
  os : w.os = w0.os
  tape : w.tape = w0.tape
  output : w.output = w0.output
  size : w0.heap.size ≤ w.heap.size
  kept : ∀ k, ¬ T 0 k → w.heap[k]? = w0.heap[k]?
  new : ∀ k, w0.heap.size ≤ k → T 0 k
  apart : ∀ k, T 1 k → ¬ T 0 k
  fz : ∀ k o, ρ.fz k = some o → w.heap[k]? = some o
  fzT : ∀ k o, ρ.fz k = some o → T 2 k ∨ T 0 k
  nofz : ∀ i o g b n, hget h i = some o → o.ro = false → ρ i = some (g, b, n) → ρ.fz g = none
  glob : ∀ g s, Fz.glob g = some s → PV ρ.clo (.rptr s) (.pointer (some ⟨g, 0, none⟩))
  tks : ∃ m, ∀ k, m ≤ k → ρ.tk k = none
  res : ∃ Fs, Rsc T ρ h w Fs
theorem Sim.flt {T : Nat → Nat → Prop} {w0 : World} {ρ : Pl} {h : LHeap} {w : World} (hs : Sim T w0 ρ h w) {k : Nat} {o : Obj} (hk : ρ.fz k = some o) : k < w.heap.size := (Array.getElem?_eq_some_iff.1 (hs.fz k o hk)).1
theorem ext0 (ρ : Pl) : Ext ρ.clo ρ := ⟨fun _ _ h => (by cases h), .refl ρ⟩
theorem Frz.heap {T : Nat → Nat → Prop} {w0 : World} {ρ : Pl} {h : LHeap} {w : World} (hs : Sim T w0 ρ h w) {g off : Nat} {l : List Value} (hf : Frz ρ g off l) : ∃ C ty fr l1 l4, w.heap[g]? = some (.cells C ty fr) ∧ C.toList = l1 ++ (l ++ l4) ∧ l1.length = off := by
  obtain ⟨C, ty, fr, h1, h2, r, h3⟩ := hf
  refine ⟨C, ty, fr, C.toList.take off, r, hs.fz g _ h1, by rw [← h3, List.take_append_drop], ?_⟩
  rw [List.length_take, show C.toList.length = C.size from Array.length_toList]
  omega
theorem Frz.sub {ρ : Pl} {g off : Nat} {l : List Value} (hf : Frz ρ g off l) (k m : Nat) (hk : k ≤ l.length) : Frz ρ g (off + k) ((l.drop k).take m) := by
  obtain ⟨C, ty, fr, h1, h2, r, h3⟩ := hf
  have hl := congrArg List.length h3
  rw [List.length_drop, show C.toList.length = C.size from Array.length_toList, List.length_append] at hl
  refine ⟨C, ty, fr, h1, by omega, (l.drop k).drop m ++ r, ?_⟩
  rw [← List.append_assoc, List.take_append_drop, ← List.drop_drop, h3, List.drop_append_of_le_length hk]
/-- The same assertions, over another heap and world. -/
theorem Rsc.keep {T : Nat → Nat → Prop} {ρ ρ' : Pl} {h h' : LHeap} {w w' : World} {Fs : Nat → Nat → Prop} (r : Rsc T ρ h w Fs) (e : ExtR ρ ρ') (hz : w.heap.size ≤ w'.heap.size)
    (hh : ∀ i o A, hget h' i = some o → o.segs = .res A → hget h i = some o) (hw : ∀ i o A k, hget h i = some o → o.segs = .res A → Fs i k → w'.heap[k]? = w.heap[k]? ∧ ρ'.fz k = none ∧ k < w'.heap.size)
    (ho : ∀ i j oi oj A g b n, hget h' i = some oi → oi.segs = .res A → hget h i = some oi → hget h' j = some oj → ρ' j = some (g, b, n) → ¬ Fs i g) : Rsc T ρ' h' w' Fs :=
  ⟨fun i o A hi hA => A.ext e (A.loc hz (fun k hk => (hw i o A k (hh i o A hi hA) hA hk).1) (r.holds i o A (hh i o A hi hA) hA)),
    fun i o A k hi hA hk => ⟨(r.mine i o A k (hh i o A hi hA) hA hk).1, (hw i o A k (hh i o A hi hA) hA hk).2⟩,
    fun i j oi oj A B k hi hA hj hB => r.apart i j oi oj A B k (hh i oi A hi hA) hA (hh j oj B hj hB) hB,
    fun i j oi oj A g b n hi hA hj => ho i j oi oj A g b n hi hA (hh i oi A hi hA) hj⟩
/-- A block is placed anew. -/
def Pl.put (ρ : Pl) (n : Nat) (x : Nat × Nat × Nat) : Pl := ⟨fun i => if i = n then some x else ρ i, ρ.fz, ρ.tk⟩
theorem Pl.put_at (ρ : Pl) (n : Nat) (x : Nat × Nat × Nat) (i : Nat) : ρ.put n x i = if i = n then some x else ρ i := rfl
theorem Pl.put_ext {ρ : Pl} {n : Nat} (h : ρ n = none) (x : Nat × Nat × Nat) : Ext ρ (ρ.put n x) := by
  refine ⟨fun b y hb => ?_, .refl _⟩
  rw [Pl.put_at]
  by_cases e : b = n
  · subst e; rw [h] at hb; cases hb
  · rw [if_neg e]; exact hb
section
variable {T : Nat → Nat → Prop} {w0 : World} {ρ : Pl} {h : LHeap} {w : World}
theorem Sim.drew (s : Sim T w0 ρ h w) : Sim T w0 ρ h w.drew :=
  ⟨s.obj, s.inj, s.lt, s.os, s.tape, s.output, s.size, s.kept, s.new, s.apart, s.fz, s.fzT, s.nofz, s.glob, s.tks, s.res.imp fun _ r => ⟨fun i o A hi hA => A.loc (w := w) (Nat.le_refl _) (fun _ _ => rfl) (r.holds i o A hi hA), r.mine, r.apart, r.off⟩⟩
theorem alloc_get (w : World) (o : Obj) (k : Nat) : (w.alloc o).heap[k]? = if k = w.heap.size then some o else w.heap[k]? := by
  unfold World.alloc
  simp only [Array.getElem?_push]
/-- A new block. -/
theorem Sim.alloc (s : Sim T w0 ρ h w) {n : Nat} (hn : ρ n = none) (hh : hget h n = none) {o : LObj} (hro : o.ro = false) {l ex : List Value} {fr : Nat × Nat} {c : Array Value} (hc : c = (l ++ ex).toArray) (hl : PS ρ o.segs l) (hm : o.more = false → ex = []) (hf : unfrozen fr (l ++ ex).length) :
    Sim T w0 (ρ.put n (w.heap.size, 0, (l ++ ex).length)) (hset h n (some o)) (w.alloc (.cells c o.ty fr)) := by
  subst hc
  have e := Pl.put_ext hn (w.heap.size, 0, (l ++ ex).length)
  have hT : T 0 w.heap.size := s.new _ s.size
  have nres : ∀ A, o.segs ≠ .res A := fun A hA => by rw [hA] at hl; exact hl
  have hnf : ρ.fz w.heap.size = none := by
    cases hq : ρ.fz w.heap.size with
    | none => rfl
    | some ob => have := s.flt hq; omega
  refine ⟨?_, ?_, ?_, s.os, s.tape, s.output, ?_, ?_, s.new, s.apart, ?_, s.fzT, ?_, s.glob, s.tks, ?_⟩
  · intro i oi hi
    rw [hget_hset] at hi
    by_cases c : i = n
    · subst c
      rw [if_pos rfl] at hi
      cases hi
      refine .inl ⟨_, _, _, _, by rw [Pl.put_at, if_pos rfl], by rw [alloc_get, if_pos rfl], ?_, (by rw [hro]; exact hT)⟩
      exact ⟨[], l, ex, fr, by simp, PS.ext e _ _ hl, fun h => ⟨hm h, rfl⟩, rfl, rfl, fun _ => by simpa using hf⟩
    · rw [if_neg c] at hi
      rcases s.obj i oi hi with ⟨g, b, m, ob, h1, h2, h3, h4⟩ | ⟨h1, h2⟩
      · refine .inl ⟨g, b, m, ob, e.at_ _ _ h1, ?_, h3.ext e, h4⟩
        rw [alloc_get, if_neg (by have := s.lt _ _ _ _ h1; omega)]
        exact h2
      · exact .inr ⟨by rw [Pl.put_at, if_neg c]; exact h1, h2.ext e⟩
  · intro i j oi oj g b m b' m' hi hj h1 h2 hTg
    rw [hget_hset] at hi hj
    rw [Pl.put_at] at h1 h2
    by_cases ci : i = n <;> by_cases cj : j = n
    · rw [ci, cj]
    · rw [if_pos ci] at h1; rw [if_neg cj] at h2
      cases h1
      have := s.lt _ _ _ _ h2
      omega
    · rw [if_neg ci] at h1; rw [if_pos cj] at h2
      cases h2
      have := s.lt _ _ _ _ h1
      omega
    · rw [if_neg ci] at h1 hi; rw [if_neg cj] at h2 hj
      exact s.inj i j oi oj g b m b' m' hi hj h1 h2 hTg
  · intro i g b m h1
    rw [Pl.put_at] at h1
    rw [World.size_alloc]
    by_cases ci : i = n
    · rw [if_pos ci] at h1; cases h1; omega
    · rw [if_neg ci] at h1
      have := s.lt _ _ _ _ h1
      omega
  · rw [World.size_alloc]; have := s.size; omega
  · intro k hk
    rw [alloc_get, if_neg (by intro c; subst c; exact hk hT)]
    exact s.kept k hk
  · intro k ob hk
    rw [alloc_get, if_neg (by have := s.flt hk; omega)]
    exact s.fz k ob hk
  · intro i oi g b m hi hr h1
    rw [hget_hset] at hi
    rw [Pl.put_at] at h1
    by_cases ci : i = n
    · rw [if_pos ci] at h1; cases h1; exact hnf
    · rw [if_neg ci] at h1 hi; exact s.nofz i oi g b m hi hr h1
  · obtain ⟨Fs, r⟩ := s.res
    refine ⟨Fs, r.keep e.r (by rw [World.size_alloc]; omega) (fun i oi A hi hA => ?_) (fun i oi A k hi hA hk => ?_) (fun i j oi oj A g b m hi hA hi0 hj h1 => ?_)⟩
    · rw [hget_hset] at hi
      by_cases c : i = n
      · rw [if_pos c] at hi; cases hi; exact absurd hA (nres A)
      · rw [if_neg c] at hi; exact hi
    · obtain ⟨h1, h2, h3⟩ := r.mine i oi A k hi hA hk
      refine ⟨by rw [alloc_get, if_neg (by omega)], h2, by rw [World.size_alloc]; omega⟩
    · rw [hget_hset] at hj
      rw [Pl.put_at] at h1
      by_cases cj : j = n
      · rw [if_pos cj] at h1; cases h1
        intro hk
        have := (r.mine i oi A _ hi0 hA hk).2.2
        omega
      · rw [if_neg cj] at h1 hj; exact r.off i j oi oj A g b m hi0 hA hj h1
/-- A block is known no more. -/
theorem Sim.kill (s : Sim T w0 ρ h w) (n : Nat) : Sim T w0 ρ (hset h n none) w := by
  have back : ∀ i o, hget (hset h n none) i = some o → hget h i = some o := by
    intro i o hi
    rw [hget_hset] at hi
    by_cases c : i = n
    · rw [if_pos c] at hi; cases hi
    · rw [if_neg c] at hi; exact hi
  exact ⟨fun i o hi => s.obj i o (back i o hi), fun i j oi oj g b m b' m' hi hj => s.inj i j oi oj g b m b' m' (back _ _ hi) (back _ _ hj), s.lt, s.os, s.tape, s.output, s.size, s.kept, s.new, s.apart, s.fz, s.fzT, fun i o g b m hi => s.nofz i o g b m (back _ _ hi), s.glob, s.tks,
    s.res.imp fun Fs r => r.keep (.refl _) (Nat.le_refl _) (fun i o A hi _ => back _ _ hi) (fun i o A k hi hA hk => ⟨rfl, (r.mine i o A k hi hA hk).2⟩) (fun i j oi oj A g b m hi hA hi0 hj h1 => r.off i j oi oj A g b m hi0 hA (back _ _ hj) h1)⟩
/-- A block's content is turned. -/
theorem Sim.turn (s : Sim T w0 ρ h w) {n : Nat} {o o' : LObj} (hro : o.ro = false) (hro' : o'.ro = false) (ho : hget h n = some o) {g b m : Nat} (hp : ρ n = some (g, b, m)) {ob' : Obj} (hPO : PO ρ b m o' ob') {w' : World} (hg : w'.heap[g]? = some ob')
    (hsz : w'.heap.size = w.heap.size) (hk : ∀ k, k ≠ g → w'.heap[k]? = w.heap[k]?) (e1 : w'.os = w.os) (e2 : w'.tape = w.tape) (e3 : w'.output = w.output) : Sim T w0 ρ (hset h n (some o')) w' := by
  have hT : T 0 g := by
    rcases s.obj n o ho with ⟨g', b', n', ob, h1, h2, h3, h4⟩ | ⟨h1, _⟩
    · rw [hp] at h1; cases h1; rw [hro] at h4; exact h4
    · rw [hp] at h1; cases h1
  have hnf : ρ.fz g = none := s.nofz n o g b m ho hro hp
  have fi : ∀ i oi, (if i = n then some o' else hget h i) = some oi → ∃ x, hget h i = some x := by
    intro i oi hi
    by_cases c : i = n
    · subst c; exact ⟨o, ho⟩
    · rw [if_neg c] at hi; exact ⟨_, hi⟩
  refine ⟨?_, ?_, ?_, e1.trans s.os, e2.trans s.tape, e3.trans s.output, by rw [hsz]; exact s.size, ?_, s.new, s.apart, ?_, s.fzT, ?_, s.glob, s.tks, ?_⟩
  · intro i oi hi
    rw [hget_hset] at hi
    by_cases c : i = n
    · subst c
      rw [if_pos rfl] at hi
      cases hi
      exact .inl ⟨g, b, m, ob', hp, hg, hPO, (by rw [hro']; exact hT)⟩
    · rw [if_neg c] at hi
      rcases s.obj i oi hi with ⟨g', b', n', ob, h1, h2, h3, h4⟩ | hr
      · refine .inl ⟨g', b', n', ob, h1, ?_, h3, h4⟩
        rw [hk g' (by intro e; subst e; exact c (s.inj i n oi o g' b' n' b m hi ho h1 hp hT))]
        exact h2
      · exact .inr hr
  · intro i j oi oj g1 b1 n1 b2 n2 hi hj h1 h2 hTg
    rw [hget_hset] at hi hj
    obtain ⟨x, hx⟩ := fi i oi hi
    obtain ⟨y, hy⟩ := fi j oj hj
    exact s.inj i j x y g1 b1 n1 b2 n2 hx hy h1 h2 hTg
  · intro i g1 b1 n1 h1
    rw [hsz]
    exact s.lt i g1 b1 n1 h1
  · intro k hk'
    rw [hk k (by intro e; subst e; exact hk' hT)]
    exact s.kept k hk'
  · intro k ob hk'
    rw [hk k (by intro e; subst e; rw [hnf] at hk'; cases hk')]
    exact s.fz k ob hk'
  · intro i oi g1 b1 n1 hi hr h1
    rw [hget_hset] at hi
    by_cases c : i = n
    · subst c; rw [hp] at h1; cases h1; exact hnf
    · rw [if_neg c] at hi; exact s.nofz i oi g1 b1 n1 hi hr h1
  · obtain ⟨Fs, r⟩ := s.res
    have nres : ∀ A, o'.segs ≠ .res A := fun A hA => by
      obtain ⟨pre, l, ex, fr, h1, h2, h3⟩ := hPO
      rw [hA] at h2; exact h2
    have back : ∀ i oi A, hget (hset h n (some o')) i = some oi → oi.segs = .res A → hget h i = some oi := by
      intro i oi A hi hA
      rw [hget_hset] at hi
      by_cases c : i = n
      · rw [if_pos c] at hi; cases hi; exact absurd hA (nres A)
      · rw [if_neg c] at hi; exact hi
    refine ⟨Fs, r.keep (.refl _) (by rw [hsz]; exact Nat.le_refl _) back (fun i oi A k hi hA hk' => ?_) (fun i j oi oj A g1 b1 n1 hi hA hi0 hj h1 => ?_)⟩
    · have hne : k ≠ g := by
        intro c
        subst c
        exact r.off i n oi o A k b m hi hA ho hp hk'
      obtain ⟨_, h2, h3⟩ := r.mine i oi A k hi hA hk'
      exact ⟨hk k hne, h2, by rw [hsz]; exact h3⟩
    · rw [hget_hset] at hj
      obtain ⟨y, hy⟩ := fi j oj hj
      exact r.off i j oi y A g1 b1 n1 hi0 hA hy h1
/-- A dead block's place is another block's. -/
theorem Sim.inherit (s : Sim T w0 ρ h w) {n n' : Nat} {o : LObj} (hro : o.ro = false) (ho : hget h n = some o) {g b m : Nat} (hp : ρ n = some (g, b, m)) (hn : ρ n' = none) (hh : hget h n' = none) {b' m' : Nat} {o' : LObj} (hro' : o'.ro = false) {ob : Obj} (hg : w.heap[g]? = some ob) (hPO : PO ρ b' m' o' ob) :
    Sim T w0 (ρ.put n' (g, b', m')) (hset (hset h n none) n' (some o')) w := by
  have e := Pl.put_ext hn (g, b', m')
  have hne : n ≠ n' := by intro c; subst c; rw [ho] at hh; cases hh
  have hT : T 0 g := by
    rcases s.obj n o ho with ⟨g', b'', n'', ob, h1, h2, h3, h4⟩ | ⟨h1, _⟩
    · rw [hp] at h1; cases h1; rw [hro] at h4; exact h4
    · rw [hp] at h1; cases h1
  have hnf : ρ.fz g = none := s.nofz n o g b m ho hro hp
  refine ⟨?_, ?_, ?_, s.os, s.tape, s.output, s.size, s.kept, s.new, s.apart, s.fz, s.fzT, ?_, s.glob, s.tks, ?_⟩
  · intro i oi hi
    rw [hget_hset, hget_hset] at hi
    by_cases c : i = n'
    · subst c
      rw [if_pos rfl] at hi
      cases hi
      exact .inl ⟨g, b', m', ob, by rw [Pl.put_at, if_pos rfl], hg, hPO.ext e, (by rw [hro']; exact hT)⟩
    · rw [if_neg c] at hi
      by_cases c2 : i = n
      · rw [if_pos c2] at hi; cases hi
      · rw [if_neg c2] at hi
        rcases s.obj i oi hi with ⟨g', b'', n'', ob, h1, h2, h3, h4⟩ | ⟨h1, h2⟩
        · exact .inl ⟨g', b'', n'', ob, e.at_ _ _ h1, h2, h3.ext e, h4⟩
        · exact .inr ⟨by rw [Pl.put_at, if_neg c]; exact h1, h2.ext e⟩
  · intro i j oi oj g1 b1 n1 b2 n2 hi hj h1 h2 hTg
    rw [hget_hset, hget_hset] at hi hj
    rw [Pl.put_at] at h1 h2
    by_cases ci : i = n' <;> by_cases cj : j = n'
    · rw [ci, cj]
    · rw [if_pos ci] at h1; rw [if_neg cj] at h2 hj
      cases h1
      by_cases c2 : j = n
      · rw [if_pos c2] at hj; cases hj
      · rw [if_neg c2] at hj; exact absurd (s.inj j n oj o g b2 n2 b m hj ho h2 hp hT) c2
    · rw [if_neg ci] at h1 hi; rw [if_pos cj] at h2
      cases h2
      by_cases c2 : i = n
      · rw [if_pos c2] at hi; cases hi
      · rw [if_neg c2] at hi; exact absurd (s.inj i n oi o g b1 n1 b m hi ho h1 hp hT) c2
    · rw [if_neg ci] at h1 hi; rw [if_neg cj] at h2 hj
      by_cases c2 : i = n
      · rw [if_pos c2] at hi; cases hi
      · by_cases c3 : j = n
        · rw [if_pos c3] at hj; cases hj
        · rw [if_neg c2] at hi; rw [if_neg c3] at hj
          exact s.inj i j oi oj g1 b1 n1 b2 n2 hi hj h1 h2 hTg
  · intro i g1 b1 n1 h1
    rw [Pl.put_at] at h1
    by_cases ci : i = n'
    · rw [if_pos ci] at h1; cases h1; exact s.lt n g b m hp
    · rw [if_neg ci] at h1; exact s.lt i g1 b1 n1 h1
  · intro i oi g1 b1 n1 hi hr h1
    rw [hget_hset, hget_hset] at hi
    rw [Pl.put_at] at h1
    by_cases ci : i = n'
    · rw [if_pos ci] at h1; cases h1; exact hnf
    · rw [if_neg ci] at h1 hi
      by_cases c2 : i = n
      · rw [if_pos c2] at hi; cases hi
      · rw [if_neg c2] at hi; exact s.nofz i oi g1 b1 n1 hi hr h1
  · obtain ⟨Fs, r⟩ := s.res
    have nres : ∀ A, o'.segs ≠ .res A := fun A hA => by
      obtain ⟨pre, l, ex, fr, h1, h2, h3⟩ := hPO
      rw [hA] at h2; exact h2
    have back : ∀ i oi A, hget (hset (hset h n none) n' (some o')) i = some oi → oi.segs = .res A → hget h i = some oi := by
      intro i oi A hi hA
      rw [hget_hset, hget_hset] at hi
      by_cases c : i = n'
      · rw [if_pos c] at hi; cases hi; exact absurd hA (nres A)
      · rw [if_neg c] at hi
        by_cases c2 : i = n
        · rw [if_pos c2] at hi; cases hi
        · rw [if_neg c2] at hi; exact hi
    refine ⟨Fs, r.keep e.r (Nat.le_refl _) back (fun i oi A k hi hA hk' => ⟨rfl, (r.mine i oi A k hi hA hk').2⟩) (fun i j oi oj A g1 b1 n1 hi hA hi0 hj h1 => ?_)⟩
    rw [hget_hset, hget_hset] at hj
    rw [Pl.put_at] at h1
    by_cases cj : j = n'
    · rw [if_pos cj] at h1; cases h1; exact r.off i n oi o A g b m hi0 hA ho hp
    · rw [if_neg cj] at h1 hj
      by_cases c2 : j = n
      · rw [if_pos c2] at hj; cases hj
      · rw [if_neg c2] at hj; exact r.off i j oi oj A g1 b1 n1 hi0 hA hj h1
/-- A block without cells need not be placed. -/
theorem Sim.empty (s : Sim T w0 ρ h w) {n : Nat} (hn : ρ n = none) (hh : hget h n = none) {o : LObj} (hl : PS ρ o.segs []) : Sim T w0 ρ (hset h n (some o)) w := by
  have nres : ∀ A, o.segs ≠ .res A := fun A hA => by rw [hA] at hl; exact hl
  refine ⟨?_, ?_, s.lt, s.os, s.tape, s.output, s.size, s.kept, s.new, s.apart, s.fz, s.fzT, ?_, s.glob, s.tks, ?_⟩
  · intro i oi hi
    rw [hget_hset] at hi
    by_cases c : i = n
    · subst c; rw [if_pos rfl] at hi; cases hi; exact .inr ⟨hn, .inl hl⟩
    · rw [if_neg c] at hi; exact s.obj i oi hi
  · intro i j oi oj g b m b' m' hi hj h1 h2 hTg
    rw [hget_hset] at hi hj
    by_cases ci : i = n
    · subst ci; rw [hn] at h1; cases h1
    · by_cases cj : j = n
      · subst cj; rw [hn] at h2; cases h2
      · rw [if_neg ci] at hi; rw [if_neg cj] at hj; exact s.inj i j oi oj g b m b' m' hi hj h1 h2 hTg
  · intro i oi g b m hi hr h1
    rw [hget_hset] at hi
    by_cases ci : i = n
    · subst ci; rw [hn] at h1; cases h1
    · rw [if_neg ci] at hi; exact s.nofz i oi g b m hi hr h1
  · obtain ⟨Fs, r⟩ := s.res
    refine ⟨Fs, r.keep (.refl _) (Nat.le_refl _) (fun i oi A hi hA => ?_) (fun i oi A k hi hA hk' => ⟨rfl, (r.mine i oi A k hi hA hk').2⟩) (fun i j oi oj A g b m hi hA hi0 hj h1 => ?_)⟩
    · rw [hget_hset] at hi
      by_cases c : i = n
      · rw [if_pos c] at hi; cases hi; exact absurd hA (nres A)
      · rw [if_neg c] at hi; exact hi
    · rw [hget_hset] at hj
      by_cases cj : j = n
      · subst cj; rw [hn] at h1; cases h1
      · rw [if_neg cj] at hj; exact r.off i j oi oj A g b m hi0 hA hj h1
/-- A block that nobody writes any more. -/
def Pl.still (ρ : Pl) (g : Nat) (ob : Obj) : Pl := ⟨ρ.at_, fun x => if x = g then some ob else ρ.fz x, ρ.tk⟩
theorem Sim.still (s : Sim T w0 ρ h w) {n : Nat} {o : LObj} (hro : o.ro = false) (ho : hget h n = some o) {g b m : Nat} (hp : ρ n = some (g, b, m)) {ob : Obj} (hg : w.heap[g]? = some ob) :
    Sim T w0 (ρ.still g ob) (hset h n none) w ∧ Ext ρ (ρ.still g ob) ∧ T 0 g := by
  have hT : T 0 g := by
    rcases s.obj n o ho with ⟨g', b', n', ob, h1, h2, h3, h4⟩ | ⟨h1, _⟩
    · rw [hp] at h1; cases h1; rw [hro] at h4; exact h4
    · rw [hp] at h1; cases h1
  have hnf : ρ.fz g = none := s.nofz n o g b m ho hro hp
  have e : Ext ρ (ρ.still g ob) := by
    refine ⟨fun _ _ h => h, fun k x hk => ?_, fun _ _ h => h⟩
    show (if k = g then some ob else ρ.fz k) = some x
    rw [if_neg (by intro c; subst c; rw [hnf] at hk; cases hk)]
    exact hk
  have back : ∀ i oi, hget (hset h n none) i = some oi → i ≠ n ∧ hget h i = some oi := by
    intro i o hi
    rw [hget_hset] at hi
    by_cases c : i = n
    · rw [if_pos c] at hi; cases hi
    · rw [if_neg c] at hi; exact ⟨c, hi⟩
  refine ⟨⟨?_, ?_, s.lt, s.os, s.tape, s.output, s.size, s.kept, s.new, s.apart, ?_, ?_, ?_, fun g' sg hs => PV.ext (Ext.clo e.r) _ _ (s.glob g' sg hs), s.tks, ?_⟩, e, hT⟩
  · intro i oi hi
    rcases s.obj i oi (back i oi hi).2 with ⟨g', b', n', ob', h1, h2, h3, h4⟩ | ⟨h1, h2⟩
    · exact .inl ⟨g', b', n', ob', h1, h2, h3.ext e, h4⟩
    · exact .inr ⟨h1, h2.ext e⟩
  · intro i j oi oj g1 b1 n1 b2 n2 hi hj h1 h2 hTg
    exact s.inj i j oi oj g1 b1 n1 b2 n2 (back _ _ hi).2 (back _ _ hj).2 h1 h2 hTg
  · intro k x hk
    have hk : (if k = g then some ob else ρ.fz k) = some x := hk
    by_cases c : k = g
    · rw [if_pos c] at hk; cases hk; subst c; exact hg
    · rw [if_neg c] at hk; exact s.fz k x hk
  · intro k x hk
    have hk : (if k = g then some ob else ρ.fz k) = some x := hk
    by_cases c : k = g
    · subst c; exact .inr hT
    · rw [if_neg c] at hk; exact s.fzT k x hk
  · intro i oi g1 b1 n1 hi hr h1
    show (if g1 = g then some ob else ρ.fz g1) = none
    rw [if_neg (by intro c; subst c; exact (back _ _ hi).1 (s.inj i n oi o g1 b1 n1 b m (back _ _ hi).2 ho h1 hp hT))]
    exact s.nofz i oi g1 b1 n1 (back _ _ hi).2 hr h1
  · obtain ⟨Fs, r⟩ := s.res
    refine ⟨Fs, r.keep e.r (Nat.le_refl _) (fun i oi A hi hA => (back _ _ hi).2) (fun i oi A k hi hA hk' => ?_) (fun i j oi oj A g1 b1 n1 hi hA hi0 hj h1 => r.off i j oi oj A g1 b1 n1 hi0 hA (back _ _ hj).2 h1)⟩
    obtain ⟨h1, h2, h3⟩ := r.mine i oi A k hi hA hk'
    refine ⟨rfl, ?_, h3⟩
    show (if k = g then some ob else ρ.fz k) = none
    rw [if_neg (by intro c; subst c; exact r.off i n oi o A k b m hi hA ho hp hk')]
    exact h2
end
end Go.Proofs.Ytilmfhpoiejmfaa.Lh
