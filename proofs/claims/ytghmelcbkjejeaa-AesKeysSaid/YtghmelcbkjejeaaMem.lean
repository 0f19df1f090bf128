/- Memory, block by block: a block known whole; arrays of integers as functions of the place; a row loaded, stored, in plain regions and in such as draw their order. Over any program; no condition. -/
import Derived.WalkKit
import Derived.LoopTactic
import Derived.Outline
import Derived.WalkLawsBesides
import Derived.RegionTactic
import Derived.BigRegion
import Derived.StillTailTactics
import Derived.Laws.Rows
import Derived.Laws.Tables
import Derived.Below
import Derived.Laws.OwnMore
import Derived.Deep.Draws
import Derived.Deep.MidRow
import Derived.Lib.Hide
namespace Go.Proofs.Ytghmelcbkjejeaa.Mem
open Go.RowKit
/-- Block g is just the cells cs of element type t. -/
def Blk (w : World) (g : Nat) (t : TypeId) (cs : Array Value) : Prop := w.heap[g]? = some (.cells cs t (0, 0))
/-- All but block g is as it was. -/
structure Upd (g : Nat) (w w' : World) : Prop where
  os : w'.os = w.os
  tape : w'.tape = w.tape
  output : w'.output = w.output
  size : w'.heap.size = w.heap.size
  block : ∀ k, k ≠ g → w'.heap[k]? = w.heap[k]?
theorem Upd.refl (g : Nat) (w : World) : Upd g w w := ⟨rfl, rfl, rfl, rfl, fun _ _ => rfl⟩
theorem Upd.setCell {g : Nat} {w w' : World} (h : Upd g w w') (i : Nat) (v : Value) : Upd g w (w'.setCell ⟨g, i, none⟩ v) := by
  refine ⟨h.os, h.tape, h.output, ?_, fun k hk => ?_⟩
  · rw [← h.size]; simp [World.setCell]
  · rw [← h.block k hk]; exact Below.heap_setCell w' ⟨g, i, none⟩ v k hk
theorem Upd.below {B g : Nat} {w w1 w2 : World} (h : Upd g w1 w2) (hb : Below B w w1) (hg : B ≤ g) : Below B w w2 :=
  ⟨h.os.trans hb.os, h.tape.trans hb.tape, h.output.trans hb.output, by rw [h.size]; exact hb.size, fun k hk => (h.block k (by omega)).trans (hb.block k hk)⟩
section
variable {w w' : World} {g : Nat} {t : TypeId} {cs : Array Value}
theorem Blk.lt (h : Blk w g t cs) : g < w.heap.size := by
  rcases Nat.lt_or_ge g w.heap.size with hlt | hge
  · exact hlt
  · unfold Blk at h; rw [Array.getElem?_eq_none hge] at h; cases h
theorem Blk.cell (h : Blk w g t cs) (i : Nat) : w.cell? ⟨g, i, none⟩ = cs[i]? := cell_of_row w g i cs t (0, 0) h
theorem Blk.frozen (h : Blk w g t cs) (i : Nat) : w.frozen? ⟨g, i, none⟩ = false := by
  unfold Blk at h
  simp [World.frozen?, h]
theorem Blk.new (w : World) (t : TypeId) (cs : Array Value) : Blk (w.alloc (.cells cs t)) w.heap.size t cs := heap_alloc_new w _
theorem Blk.new_at (w : World) (t : TypeId) (cs : Array Value) {n : Nat} (hn : n = w.heap.size) : Blk (w.alloc (.cells cs t)) n t cs := by rw [hn]; exact Blk.new w t cs
theorem Blk.drew (h : Blk w g t cs) : Blk w.drew g t cs := h
theorem Blk.drewN (h : Blk w g t cs) (n : Nat) : Blk (w.drewN n) g t cs := h
theorem Blk.alloc (h : Blk w g t cs) (o : Obj) : Blk (w.alloc o) g t cs := (Below.heap_alloc w o g h.lt).trans h
theorem Blk.set_ (h : Blk w g t cs) (i : Nat) (u : Value) : Blk (w.setCell ⟨g, i, none⟩ u) g t (cs.setIfInBounds i u) := by
  unfold Blk at h ⊢
  simp [World.setCell, Array.getElem?_modify, h]
theorem Blk.far (h : Blk w g t cs) {p : Addr} (hp : g ≠ p.block) (u : Value) : Blk (w.setCell p u) g t cs := (Below.heap_setCell w p u g hp).trans h
theorem Blk.below {B : Nat} (h : Blk w g t cs) (hb : Below B w w') (hg : g < B) : Blk w' g t cs := (hb.block g hg).trans h
theorem Blk.kept (h : Blk w g t cs) (hb : Below w.heap.size w w') : Blk w' g t cs := h.below hb h.lt
theorem Blk.upd {g' : Nat} (h : Blk w g t cs) (hu : Upd g' w w') (hne : g ≠ g') : Blk w' g t cs := (hu.block g hne).trans h
end
/-! Arrays of integers as functions of the place. -/
def arr (k : IntKind) (n : Nat) (f : Nat → Nat) : Array Value := ((List.range n).map fun i => Value.int k (f i : Int)).toArray
section
variable {k : IntKind} {n : Nat} {f : Nat → Nat}
theorem arr_size (k : IntKind) (n : Nat) (f : Nat → Nat) : (arr k n f).size = n := by simp [arr]
theorem arr_get (f : Nat → Nat) (i : Nat) (h : i < n) : (arr k n f)[i]? = some (.int k (f i : Int)) := by simp [arr, h]
theorem arr_out (f : Nat → Nat) (i : Nat) (h : ¬ i < n) : (arr k n f)[i]? = none := by simp [arr, h]
theorem arr_one (k : IntKind) (n : Nat) (f : Nat → Nat) : (arr k n f).all (·.oneCell') = true := by
  rw [Array.all_eq_true_iff_forall_mem]
  intro x hx
  simp only [arr, List.mem_toArray, List.mem_map] at hx
  obtain ⟨i, _, rfl⟩ := hx
  rfl
theorem arr_congr {g : Nat → Nat} (h : ∀ i, i < n → f i = g i) : arr k n f = arr k n g := by
  unfold arr
  congr 1
  apply List.map_congr_left
  intro i hi
  rw [h i (List.mem_range.mp hi)]
theorem arr_inj {g : Nat → Nat} (h : arr k n f = arr k n g) : ∀ i, i < n → f i = g i := by
  intro i hi
  have h1 := arr_get (k := k) f i hi
  rw [h, arr_get g i hi] at h1
  have : (g i : Int) = (f i : Int) := by simpa using h1
  omega
theorem arr_set (k : IntKind) (n : Nat) (f : Nat → Nat) (j v : Nat) : (arr k n f).setIfInBounds j (.int k (v : Int)) = arr k n (fun i => if i = j then v else f i) := by
  apply Array.ext_getElem?
  intro i
  rw [Array.getElem?_setIfInBounds, arr_size]
  by_cases hi : i < n
  · rw [arr_get f i hi, arr_get _ i hi]
    by_cases e : j = i
    · subst e; simp [hi]
    · rw [if_neg e, if_neg (Ne.symm e)]
  · rw [arr_out f i hi, arr_out _ i hi]
    simp
    omega
/-- A row's part, as a list. -/
def part (k : IntKind) (n : Nat) (f : Nat → Nat) : List Value := (List.range n).map fun i => Value.int k (f i : Int)
theorem part_arr (k : IntKind) (n : Nat) (f : Nat → Nat) : (part k n f).toArray = arr k n f := rfl
theorem part_len (k : IntKind) (n : Nat) (f : Nat → Nat) : (part k n f).length = n := by simp [part]
theorem part_get (f : Nat → Nat) (i : Nat) (v : Value) (h : (part k n f)[i]? = some v) : i < n ∧ v = .int k (f i : Int) := by
  unfold part at h
  have hi : i < n := by
    have := (List.getElem?_eq_some_iff.1 h).1
    simpa using this
  refine ⟨hi, ?_⟩
  rw [List.getElem?_map, List.getElem?_range hi] at h
  simpa using h.symm
theorem Blk.at_ {w : World} {g : Nat} {t : TypeId} (h : Blk w g t (arr k n f)) (i : Nat) (hi : i < n) : w.cell? ⟨g, i, none⟩ = some (.int k (f i : Int)) := (h.cell i).trans (arr_get f i hi)
theorem Blk.range {w : World} {g : Nat} {t : TypeId} (h : Blk w g t (arr k n f)) (o m : Nat) (hm : o + m ≤ n) : w.rangeAt g o (part k m fun i => f (o + i)) := by
  intro j v hv
  obtain ⟨hj, rfl⟩ := part_get _ _ _ hv
  exact h.at_ (o + j) (by omega)
theorem Blk.there {w : World} {g : Nat} {t : TypeId} (h : Blk w g t (arr k n f)) (o m : Nat) (hm : o + m ≤ n) : w.there g o m := by
  intro j hj
  exact ⟨by rw [h.at_ (o + j) (by omega)]; rfl, h.frozen _⟩
theorem setCells_blk (g : Nat) (t : TypeId) (m : Nat) : ∀ (w : World) (f h : Nat → Nat) (o : Nat), Blk w g t (arr k n f) →
    Blk (w.setCells g o (part k m h)) g t (arr k n fun i => if o ≤ i ∧ i < o + m then h (i - o) else f i) ∧ Upd g w (w.setCells g o (part k m h)) := by
  induction m with
  | zero =>
    intro w f h o hb
    refine ⟨?_, Upd.refl _ _⟩
    rw [arr_congr (g := f) (fun i _ => by rw [if_neg (by omega)])]
    exact hb
  | succ m ih =>
    intro w f h o hb
    have e : part k (m + 1) h = .int k (h 0 : Int) :: part k m (fun i => h (i + 1)) := by
      unfold part
      rw [List.range_succ_eq_map, List.map_cons, List.map_map]
      rfl
    rw [e]
    have h1 := hb.set_ o (.int k (h 0 : Int))
    rw [arr_set] at h1
    obtain ⟨h2, h3⟩ := ih _ _ (fun i => h (i + 1)) (o + 1) h1
    have hu : Upd g w (w.setCell ⟨g, o, none⟩ (.int k (h 0 : Int))) := (Upd.refl g w).setCell o _
    refine ⟨?_, ⟨h3.os.trans hu.os, h3.tape.trans hu.tape, h3.output.trans hu.output, h3.size.trans hu.size, fun j hj => (h3.block j hj).trans (hu.block j hj)⟩⟩
    rw [arr_congr (g := fun i => if o + 1 ≤ i ∧ i < o + 1 + m then h (i - (o + 1) + 1) else if i = o then h 0 else f i) (fun i _ => by
      by_cases c1 : i = o
      · subst c1; rw [if_pos (by omega), if_neg (by omega), if_pos rfl]; simp
      · by_cases c2 : o ≤ i ∧ i < o + (m + 1)
        · rw [if_pos c2, if_pos (by omega), show i - (o + 1) + 1 = i - o by omega]
        · rw [if_neg c2, if_neg (by omega), if_neg c1])]
    exact h2
end
section
variable {P : Program} {ops : Array Oper} {rest : List Oper} {op : Oper} {a : Act} {w : World} {Q : Exit → Act → World → Prop} {k : IntKind} {n : Nat} {f : Nat → Nat} {g o : Nat} {t : TypeId}
/-- A row loaded, from a place of a block on. -/
theorem wpList_load_arr (hgd : op.guard = none) (ty : TypeId) (x : Operand) (ho : op.op = .load ty x) (hx : a.eval x = .pointer (some ⟨g, o, none⟩)) (hb : Blk w g t (arr k n f)) (m : Nat) (hm : o + m ≤ n)
    (d : TypeDesc) (hu : P.underlying ty = some d) (hd : d.isRow = true) (hi : (P.info? ty).map (·.size) = some m)
    (h : wpList P ops Q rest (a.put op.dst (.agg (arr k m fun i => f (o + i)))) w) : wpList P ops Q (op :: rest) a w :=
  wpList_load_mid hgd ty x ho g o hx (part k m fun i => f (o + i)) d (hb.range o m hm) hu hd (by rw [part_len]; exact hi) h
/-- The whole row of a block loaded. -/
theorem wpList_load_all (hgd : op.guard = none) (ty : TypeId) (x : Operand) (ho : op.op = .load ty x) (hx : a.eval x = .pointer (some ⟨g, 0, none⟩)) (hb : Blk w g t (arr k n f))
    (d : TypeDesc) (hu : P.underlying ty = some d) (hd : d.isRow = true) (hi : (P.info? ty).map (·.size) = some n)
    (h : wpList P ops Q rest (a.put op.dst (.agg (arr k n f))) w) : wpList P ops Q (op :: rest) a w :=
  wpList_load_mid hgd ty x ho g 0 hx (part k n f) d (by have := hb.range 0 n (by omega); simpa using this) hu hd (by rw [part_len]; exact hi) h
/-- A row loaded, told by another function. -/
theorem wpList_load_part (hgd : op.guard = none) (ty : TypeId) (x : Operand) (ho : op.op = .load ty x) (hx : a.eval x = .pointer (some ⟨g, o, none⟩)) (hb : Blk w g t (arr k n f)) (m : Nat) (hm : o + m ≤ n) (v : Nat → Nat) (hv : ∀ i, i < m → f (o + i) = v i)
    (d : TypeDesc) (hu : P.underlying ty = some d) (hd : d.isRow = true) (hi : (P.info? ty).map (·.size) = some m)
    (h : wpList P ops Q rest (a.put op.dst (.agg (arr k m v))) w) : wpList P ops Q (op :: rest) a w :=
  wpList_load_arr hgd ty x ho hx hb m hm d hu hd hi (by rw [arr_congr hv]; exact h)
/-- A row stored, from a place of a block on: the world behind it is told by what it holds. -/
theorem wpList_store_arr (hgd : op.guard = none) (ty : TypeId) (x y : Operand) (ho : op.op = .store ty x y) (hx : a.eval x = .pointer (some ⟨g, o, none⟩)) (hb : Blk w g t (arr k n f)) (m : Nat) (hm : o + m ≤ n) (v : Nat → Nat)
    (hy : a.eval y = .agg (arr k m v)) (hi : (P.info? ty).map (·.size) = some m)
    (h : ∀ w', Blk w' g t (arr k n fun i => if o ≤ i ∧ i < o + m then v (i - o) else f i) → Upd g w w' → wpList P ops Q rest (a.put op.dst undef) w') : wpList P ops Q (op :: rest) a w := by
  have hs := setCells_blk (k := k) (n := n) g t m w f v o hb
  refine wpList_store_mid hgd ty x y ho g o (arr k m v) hx hy (by rw [arr_size]; exact hb.there o m hm) (by rw [arr_size]; exact hi) (arr_one _ _ _) ?_
  exact h _ hs.1 hs.2
/-- A whole row stored. -/
theorem wpList_store_all (hgd : op.guard = none) (ty : TypeId) (x y : Operand) (ho : op.op = .store ty x y) (hx : a.eval x = .pointer (some ⟨g, 0, none⟩)) (hb : Blk w g t (arr k n f)) (v : Nat → Nat)
    (hy : a.eval y = .agg (arr k n v)) (hi : (P.info? ty).map (·.size) = some n)
    (h : ∀ w', Blk w' g t (arr k n v) → Upd g w w' → wpList P ops Q rest (a.put op.dst undef) w') : wpList P ops Q (op :: rest) a w := by
  refine wpList_store_arr hgd ty x y ho hx hb n (by omega) v hy hi (fun w' h1 h2 => h w' ?_ h2)
  rw [arr_congr (g := fun i => if 0 ≤ i ∧ i < 0 + n then v (i - 0) else f i) (fun i hi => by rw [if_pos (by omega), Nat.sub_zero])]
  exact h1
/-- In a region that draws its order: a row loaded. -/
theorem wpStill_load_arr {Q : Act → Prop} (hgd : op.guard = none) (ty : TypeId) (x : Operand) (ho : op.op = .load ty x) (hx : a.eval x = .pointer (some ⟨g, o, none⟩)) (hb : Blk w g t (arr k n f)) (m : Nat) (hm : o + m ≤ n)
    (d : TypeDesc) (hu : P.underlying ty = some d) (hd : d.isRow = true) (hi : (P.info? ty).map (·.size) = some m)
    (h : wpStill P ops w Q rest (a.put op.dst (.agg (arr k m fun i => f (o + i))))) : wpStill P ops w Q (op :: rest) a := by
  refine wpStill_step (fun K hK => ?_)
  rw [if_pos (by simp [Region.wanted, hgd])]
  unfold Oper.still execOp
  simp only [ho, hx, Instr.loadAt, Instr.sureAddr, Sem.run_bind, Sem.run_pure, Result.andThen_ok, run_loadVar_mid w g o ty (part k m fun i => f (o + i)) d (hb.range o m hm) hu hd (by rw [part_len]; exact hi)]
  exact ⟨rfl, hK _ h⟩
theorem wpStill_load_part {Q : Act → Prop} (hgd : op.guard = none) (ty : TypeId) (x : Operand) (ho : op.op = .load ty x) (hx : a.eval x = .pointer (some ⟨g, o, none⟩)) (hb : Blk w g t (arr k n f)) (m : Nat) (hm : o + m ≤ n) (v : Nat → Nat) (hv : ∀ i, i < m → f (o + i) = v i)
    (d : TypeDesc) (hu : P.underlying ty = some d) (hd : d.isRow = true) (hi : (P.info? ty).map (·.size) = some m)
    (h : wpStill P ops w Q rest (a.put op.dst (.agg (arr k m v)))) : wpStill P ops w Q (op :: rest) a :=
  wpStill_load_arr hgd ty x ho hx hb m hm d hu hd hi (by rw [arr_congr hv]; exact h)
theorem wpStill_load_all {Q : Act → Prop} (hgd : op.guard = none) (ty : TypeId) (x : Operand) (ho : op.op = .load ty x) (hx : a.eval x = .pointer (some ⟨g, 0, none⟩)) (hb : Blk w g t (arr k n f))
    (d : TypeDesc) (hu : P.underlying ty = some d) (hd : d.isRow = true) (hi : (P.info? ty).map (·.size) = some n)
    (h : wpStill P ops w Q rest (a.put op.dst (.agg (arr k n f)))) : wpStill P ops w Q (op :: rest) a :=
  wpStill_load_arr hgd ty x ho hx hb n (by omega) d hu hd hi (by simpa using h)
/-- The result that lies in a block. -/
theorem results_blk {fn : Func} {p : Tmp} {ty : TypeId} (h : fn.results = #[.cell p ty]) (tmps : Array Value) (hp : tmps.getD p undef = .pointer (some ⟨g, 0, none⟩)) (hb : Blk w g t (arr k n f))
    (d : TypeDesc) (hu : P.underlying ty = some d) (hd : (match d with | .struct _ | .array _ _ => true | _ => false) = true) (hi : (P.info? ty).map (·.size) = some n) :
    (results fn tmps).run P w = .ok (.agg (arr k n f)) w :=
  results_cell_row h tmps w g t _ (0, 0) d hp hb hu hd (by rw [arr_size]; exact hi)
end
end Go.Proofs.Ytghmelcbkjejeaa.Mem
