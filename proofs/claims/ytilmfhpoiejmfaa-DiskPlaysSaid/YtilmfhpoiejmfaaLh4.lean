/- Loads, stores, places; quiet operations. Over any program. -/
import Derived.Test.YtilmfhpoiejmfaaLh3
import Derived.Deep.MidRow
import Derived.Laws.IdiomCopy
import Derived.Laws.LoneSync
import Derived.KernelRfl
namespace Go.Proofs.Ytilmfhpoiejmfaa.Lh
set_option linter.unusedSimpArgs false
set_option linter.unusedVariables false
set_option linter.unusedSectionVars false
open Go.RowKit
variable [Fz]
section
variable {T : Nat → Nat → Prop} {w0 : World} {ρ : Pl} {h : LHeap} {w : World} {t : List LVal} {a : Act} {Φ : LVal → List (Nat × Option LObj) → Option LObj → Prop} {P : Program} {n : Nat}
def rdAt (p : LAddr) (K : Segs → Rd) : Rd := .obj p.blk fun o => pathK p.path o.segs fun s => skipK s p.off K .fail
theorem read_wp (hs : Sim T w0 ρ h w) {p : LAddr} {K : Segs → Rd} {g b m : Nat} (hp : ρ p.blk = some (g, b, m)) (hw : (rdAt p K).wp t h Φ) :
    ∃ s' C ty fr l1 l2, (K s').wp t h Φ ∧ w.heap[g]? = some (.cells C ty fr) ∧ C.toList = l1 ++ l2 ∧ l1.length = b + p.cell ∧ (∃ l3 l4, l2 = l3 ++ l4 ∧ PS ρ s' l3) ∧ True ∧ True := by
  simp only [rdAt, Rd.wp, hgetK_eq] at hw
  cases hg : hget h p.blk with
  | none => simp [hg] at hw
  | some o =>
    simp only [hg] at hw
    rcases hs.obj _ _ hg with ⟨g', b', m', ob, h1, h2, h3, hT⟩ | ⟨h1, _⟩
    · rw [hp] at h1
      cases h1
      obtain ⟨pre, l, ex, fr, rfl, hl, _, hb, _, hf⟩ := h3
      obtain ⟨s1, h4, h5⟩ := path_wp _ _ hw
      obtain ⟨s2, h6, h7⟩ := skip_wp _ _ h4
      obtain ⟨a1, a2, a3, rfl, e1, e2⟩ := h5 ρ l hl
      obtain ⟨b1, b2, rfl, e3, e4⟩ := h7 ρ a2 e2
      refine ⟨s2, _, _, fr, pre ++ a1 ++ b1, b2 ++ a3 ++ ex, h6, h2, by simp, ?_, ⟨b2, a3 ++ ex, by simp, e4⟩, trivial, trivial⟩
      simp only [List.length_append, LAddr.cell, hb, e1, e3]; omega
    · rw [hp] at h1; cases h1
theorem cell_at {w : World} {g : Nat} {C : Array Value} {ty : TypeId} {fr : Nat × Nat} (hg : w.heap[g]? = some (.cells C ty fr)) {l1 l2 : List Value} (hC : C.toList = l1 ++ l2) (j : Nat) : w.cell? ⟨g, l1.length + j, none⟩ = l2[j]? := by
  rw [cell_of_row w g _ C ty fr hg, ← Array.getElem?_toList, hC, List.getElem?_append_right (by omega)]
  congr 1 <;> omega
theorem splice {A B C Y : List Value} (h : Y.length = B.length) {k : Nat} (hk : k = A.length) : (A ++ (B ++ C)).take k ++ Y ++ (A ++ (B ++ C)).drop (k + Y.length) = A ++ (Y ++ C) := by
  subst hk
  rw [List.take_left, show A.length + Y.length = (A ++ B).length by simp [h], ← List.append_assoc A B C, List.drop_left, List.append_assoc]
/-- What a store makes of a block. -/
theorem setCells_heap (g : Nat) : ∀ (vs : List Value) (w : World) (o : Nat) (C : Array Value) (ty : TypeId) (fr : Nat × Nat), w.heap[g]? = some (.cells C ty fr) → o + vs.length ≤ C.size →
    (w.setCells g o vs).heap[g]? = some (.cells (C.toList.take o ++ vs ++ C.toList.drop (o + vs.length)).toArray ty fr) ∧ (w.setCells g o vs).heap.size = w.heap.size ∧ (∀ k, k ≠ g → (w.setCells g o vs).heap[k]? = w.heap[k]?) ∧
      (w.setCells g o vs).os = w.os ∧ (w.setCells g o vs).tape = w.tape ∧ (w.setCells g o vs).output = w.output
  | [], w, o, C, ty, fr, h, _ => by
    refine ⟨?_, rfl, fun _ _ => rfl, rfl, rfl, rfl⟩
    rw [List.append_nil, List.length_nil, Nat.add_zero, List.take_append_drop]
    exact h
  | v :: vs, w, o, C, ty, fr, h, hl => by
    have h1 : (w.setCell ⟨g, o, none⟩ v).heap[g]? = some (.cells (C.setIfInBounds o v) ty fr) := by
      simp [World.setCell, Array.getElem?_modify, h]
    have ho : o < C.size := by simp only [List.length_cons] at hl; omega
    obtain ⟨e1, e2, e3, e4, e5, e6⟩ := setCells_heap g vs _ (o + 1) _ ty fr h1 (by simp only [List.length_cons] at hl; simp; omega)
    refine ⟨?_, by rw [World.setCells, e2, World.size_setCell], fun k hk => by rw [World.setCells, e3 k hk]; exact Below.heap_setCell w ⟨g, o, none⟩ v k hk, e4, e5, e6⟩
    rw [World.setCells, e1]
    congr 3
    apply List.ext_getElem?
    intro i
    simp only [Array.toList_setIfInBounds, List.getElem?_append, List.length_append, List.length_take, List.length_set, Array.length_toList, List.getElem?_take, List.getElem?_set, List.getElem?_drop, List.length_cons, List.getElem?_cons]
    have hm1 : min (o + 1) C.size = o + 1 := by omega
    have hm2 : min o C.size = o := by omega
    rw [hm1, hm2]
    by_cases c1 : i < o
    · rw [if_pos (by omega), if_pos (by omega), if_pos (by omega), if_neg (by omega), if_pos (by omega), if_pos (by omega), if_pos (by omega)]
    · by_cases c2 : i = o
      · subst c2
        rw [if_pos (by omega), if_pos (by omega), if_pos (by omega), if_pos rfl, if_pos (by simpa using ho), if_pos (by omega), if_neg (by omega), if_pos (by omega)]
      · by_cases c3 : i < o + 1 + vs.length
        · rw [if_pos (by omega), if_neg (by omega), if_pos (by omega), if_neg (by omega), if_neg (by omega)]
          congr 1 <;> omega
        · rw [if_neg (by omega), if_neg (by omega), if_neg (by omega)]
          congr 1 <;> omega
theorem unfrozen_at {w : World} {g : Nat} {C : Array Value} {ty : TypeId} {fr : Nat × Nat} (hg : w.heap[g]? = some (.cells C ty fr)) (hf : unfrozen fr C.size) {i : Nat} (hi : i < C.size) : w.frozen? ⟨g, i, none⟩ = false := by
  have := hf i hi
  simp only [World.frozen?, hg]
  simpa [Bool.and_eq_false_iff, Nat.not_le, Nat.not_lt] using (by omega : fr.1 ≤ i → fr.2 ≤ i)
theorem PS.oneCells {ρ : Pl} : ∀ (s : Segs) (l : List Value), PS ρ s l → ∀ x ∈ l, x.oneCell' = true
  | .nil, l, h, x, hx => by
    have : l = [] := h
    subst this; cases hx
  | .one v r, l, h, x, hx => by
    obtain ⟨y, l', rfl, _, h3, h4⟩ := h
    rcases List.mem_cons.1 hx with rfl | hx
    · exact h3
    · exact PS.oneCells r l' h4 x hx
  | .rows n w f r, l, h, x, hx => by
    obtain ⟨ls, l', rfl, h2, h3, h4⟩ := h
    rcases List.mem_append.1 hx with hx | hx
    · obtain ⟨y, hy, hxy⟩ := List.mem_flatten.1 hx
      obtain ⟨i, hi, rfl⟩ := List.mem_iff_getElem.1 hy
      obtain ⟨z, hz, _, hp⟩ := h3 i (by omega)
      rw [List.getElem?_eq_getElem hi] at hz
      cases hz
      exact PS.oneCells (f i) _ hp x hxy
    · exact PS.oneCells r l' h4 x hx
/-- A value's cells. -/
def cellsK (v : LVal) (w : Nat) (K : Segs → Rd) : Rd :=
  match v with
  | .agg s => match Nat.beq (segW s) w with
    | true => K s
    | false => .fail
  | .undef => .fail
  | .any => .fail
  | .tup _ => .fail
  | v => match Nat.beq w 1 with
    | true => K (.one v .nil)
    | false => .fail
theorem cells_wp {v : LVal} {x : Value} {m : Nat} {K : Segs → Rd} (hv : PV ρ v x) (hw : (cellsK v m K).wp t h Φ) : ∃ s, (K s).wp t h Φ ∧ PS ρ s x.cells.toList ∧ x.cells.size = m := by
  unfold cellsK at hw
  split at hw
  · rename_i s
    split at hw
    · rename_i hb
      have hb := Nat.eq_of_beq_eq_true hb
      obtain ⟨l, hl, rfl⟩ := hv
      refine ⟨s, hw, by simpa [Value.cells] using hl, ?_⟩
      have := PS.length _ _ hl
      simp [Value.cells]; omega
    · exact hw.elim
  · exact hw.elim
  · exact hw.elim
  · exact hw.elim
  · rename_i h1 h2 h2' h3
    split at hw
    · rename_i hb
      have hb := Nat.eq_of_beq_eq_true hb
      have key : x.oneCell' = true ∧ x.cells = #[x] := by
        cases v <;> first
          | exact absurd rfl (h1 _)
          | exact absurd rfl h2
          | exact absurd rfl h2'
          | exact absurd rfl (h3 _)
          | (have e : x = _ := hv; subst e; exact ⟨rfl, rfl⟩)
          | (obtain ⟨_, _, e, _⟩ := hv; subst e; exact ⟨rfl, rfl⟩)
          | (obtain ⟨_, _, _, e, _⟩ := hv; subst e; exact ⟨rfl, rfl⟩)
          | (obtain ⟨_, _, _, _, e⟩ := hv; subst e; exact ⟨rfl, rfl⟩)
          | (obtain ⟨_, _, e⟩ := hv; subst e; exact ⟨rfl, rfl⟩)
      refine ⟨.one v .nil, hw, ?_, by rw [key.2, hb]; rfl⟩
      rw [key.2]
      exact ⟨x, [], rfl, hv, key.1, rfl⟩
    · exact hw.elim
def loadS (w : Option Nat) (s : Segs) : Rd := match w with
  | none => match s with
    | .one v _ => Rd.ret v [] none
    | _ => .fail
  | some m => takeK s m (fun x => .ret (.agg x) [] none) .fail
def loadRd (w : Option Nat) : LVal → Rd
  | .ptr p => rdAt p fun s => loadS w s
  | .rptr s => loadS w s
  | _ => .fail
theorem load_core (ty : TypeId) (d : TypeDesc) (i : TypeInfo) (hd : P.underlying ty = some d) (hi : P.info? ty = some i) {s : Segs} {g o : Nat} {C : Array Value} {ty' : TypeId} {fr : Nat × Nat} {l1 l3 l4 : List Value} (h1 : (loadS (if d.isRow then some i.size else none) s).wp t h Φ) (h2 : w.heap[g]? = some (.cells C ty' fr)) (h3 : C.toList = l1 ++ (l3 ++ l4)) (h4 : l1.length = o) (h5 : PS ρ s l3) :
    ∃ v' x', Φ v' [] none ∧ (loadVar ty ⟨g, o, none⟩).run P w = .ok x' w ∧ PV ρ v' x' := by
  by_cases c : d.isRow = true
  · simp only [loadS, c, if_true] at h1
    obtain ⟨s', h6, h7⟩ := take_wp _ _ _ h1
    obtain ⟨c1, c2, rfl, h8, h9⟩ := h7 ρ l3 h5
    refine ⟨_, .agg c1.toArray, h6, ?_, c1, h9, rfl⟩
    refine run_loadVar_mid w g _ ty c1 d ?_ hd c (by rw [hi]; simp [h8])
    intro j v hj
    rw [← h4, cell_at h2 h3 j, List.append_assoc, List.getElem?_append_left ((List.getElem?_eq_some_iff.1 hj).1)]
    exact hj
  · simp only [loadS, c] at h1
    cases s <;> try exact h1.elim
    rename_i v r
    obtain ⟨x, l', rfl, h6, h7, _⟩ := h5
    have hcell : w.cell? ⟨g, o, none⟩ = some x := by
      have := cell_at h2 h3 0
      rw [h4] at this
      simpa using this
    refine ⟨_, x, h1, ?_, h6⟩
    have hagg : (isAgg ty).run P w = .ok false w := by
      unfold isAgg
      rw [Sem.run_bind, run_underlying hd w]
      cases d <;> simp_all
    simp [loadVar, Sem.run_bind, hagg, hcell]
theorem load_run (ty : TypeId) (d : TypeDesc) (i : TypeInfo) (hd : P.underlying ty = some d) (hi : P.info? ty = some i) (hs : Sim T w0 ρ h w) {v : LVal} {x : Value} (hv : PV ρ v x) (hw : (loadRd (if d.isRow then some i.size else none) v).wp t h Φ) :
    ∃ p v' x', x = .pointer (some p) ∧ Φ v' [] none ∧ (loadVar ty p).run P w = .ok x' w ∧ PV ρ v' x' := by
  cases v <;> try exact hw.elim
  · rename_i p
    obtain ⟨g, b, m, hp, hx⟩ := hv
    obtain ⟨s, C, ty', fr, l1, l2, h1, h2, h3, h4, ⟨l3, l4, rfl, h5⟩, _⟩ := read_wp hs hp hw
    obtain ⟨v', x', q1, q2, q3⟩ := load_core ty d i hd hi h1 h2 h3 h4 h5
    exact ⟨_, v', x', hx, q1, q2, q3⟩
  · rename_i s
    obtain ⟨g, off, l, hx, hf, h5⟩ := hv
    obtain ⟨C, ty', fr, l1, l4, h2, h3, h4⟩ := hf.heap hs
    obtain ⟨v', x', q1, q2, q3⟩ := load_core ty d i hd hi hw h2 h3 h4 (PS.ext (ext0 ρ) _ _ h5)
    exact ⟨_, v', x', hx, q1, q2, q3⟩
theorem load_sound (ty : TypeId) (X : Operand) (o : Oper) (ho : o.op = .load ty X) (d : TypeDesc) (i : TypeInfo) (hd : P.underlying ty = some d) (hi : P.info? ty = some i) (hs : Sim T w0 ρ h w) {v : LVal} (hv : PV ρ v (a.eval X))
    (hw : (loadRd (if d.isRow then some i.size else none) v).wp t h Φ) : Res P o a w T w0 ρ h n Φ := by
  obtain ⟨p, v', x', h1, h2, h3, h4⟩ := load_run (P := P) (w := w) ty d i hd hi hs hv hw
  refine Res.quiet hs h2 (x := x') ?_ h4
  unfold execOp
  simp only [ho, h1, Instr.loadAt, Instr.sureAddr, Sem.run_bind, Sem.run_pure, Result.andThen_ok, h3]
/-- Cells put at a place; what is told of it: 'r'. -/
def putRd (m : Nat) (p : LAddr) (y : Segs) (r : LVal) : Rd := .obj p.blk fun o => match o.ro with
    | true => .fail
    | false => pmodK p.path o.segs (fun s K => atK s p.off (fun s1 K1 => skipK s1 m (fun r => appK y r K1) .fail) K .fail) fun s' => .ret r [(p.blk, some ⟨s', o.ty, o.more, false⟩)] none
def storeRd (m : Nat) : LVal → LVal → Rd
  | .ptr p, v => cellsK v m fun y => putRd m p y .undef
  | _, _ => .fail
theorem put_run (hs : Sim T w0 ρ h w) {p : LAddr} {g b m' : Nat} (hp : ρ p.blk = some (g, b, m')) {m : Nat} {sy : Segs} {yl : List Value} (hsy : PS ρ sy yl) (hlen : yl.length = m) {r : LVal} (h1 : (putRd m p sy r).wp t h Φ) :
    ∃ o', Φ r [(p.blk, some o')] none ∧ Sim T w0 ρ (hset h p.blk (some o')) (w.setCells g (b + p.cell) yl) ∧ (∀ j, j < yl.length → (w.cell? ⟨g, b + p.cell + j, none⟩).isSome = true) ∧ (∀ j, j < yl.length → w.frozen? ⟨g, b + p.cell + j, none⟩ = false) := by
  simp only [putRd, Rd.wp, hgetK_eq] at h1
  cases hg : hget h p.blk with
  | none => simp [hg] at h1
  | some ob =>
    simp only [hg] at h1
    split at h1
    · exact h1.elim
    rename_i hro
    rcases hs.obj _ _ hg with ⟨g', b', m'', obj, e1, e2, e3, hT⟩ | ⟨e1, _⟩
    · rw [hp] at e1
      cases e1
      obtain ⟨s1, rb, h2, h3⟩ := pmod_wp _ _ _ h1
      obtain ⟨s2, rb2, h4, h5⟩ := at_wp _ _ _ h2
      obtain ⟨s3, h6, h7⟩ := skip_wp _ _ h4
      obtain ⟨s4, h8, h9⟩ := app_wp _ _ _ h6
      obtain ⟨pre, l, ex, fr, rfl, hl, hm, hb, hn, hf⟩ := e3
      obtain ⟨a1, a2, a3, rfl, f1, f2, f3⟩ := h3 ρ l hl
      obtain ⟨b1, b2, rfl, g1, g2, g3⟩ := h5 ρ a2 f2
      obtain ⟨c1, c2, rfl, k1, k2⟩ := h7 ρ b2 g2
      have hlen : yl.length = c1.length := by rw [hlen, k1]
      have q1 := h9 ρ _ _ hsy k2
      have q2 := g3 ρ _ _ (Ext.refl ρ) q1
      have q3 := f3 ρ _ _ (Ext.refl ρ) q2 (by simp only [List.length_append, hlen])
      have hoff : pre.length + a1.length + b1.length = b + p.cell := by simp only [LAddr.cell, hb, f1, g1]; omega
      have hCsz : (pre ++ (a1 ++ (b1 ++ (c1 ++ c2)) ++ a3) ++ ex).toArray.size = pre.length + a1.length + b1.length + c1.length + c2.length + a3.length + ex.length := by simp; omega
      obtain ⟨r1, r2, r3, r4, r5, r6⟩ := setCells_heap g yl w (b + p.cell) _ _ _ e2 (by rw [hCsz]; omega)
      have hdisp : (List.take (b + p.cell) (pre ++ (a1 ++ (b1 ++ (c1 ++ c2)) ++ a3) ++ ex).toArray.toList ++ yl ++ List.drop (b + p.cell + yl.length) (pre ++ (a1 ++ (b1 ++ (c1 ++ c2)) ++ a3) ++ ex).toArray.toList) = pre ++ (a1 ++ (b1 ++ (yl ++ c2)) ++ a3) ++ ex := by
        have e : pre ++ (a1 ++ (b1 ++ (c1 ++ c2)) ++ a3) ++ ex = (pre ++ a1 ++ b1) ++ (c1 ++ (c2 ++ a3 ++ ex)) := by simp
        have e' : pre ++ (a1 ++ (b1 ++ (yl ++ c2)) ++ a3) ++ ex = (pre ++ a1 ++ b1) ++ (yl ++ (c2 ++ a3 ++ ex)) := by simp
        rw [show (pre ++ (a1 ++ (b1 ++ (c1 ++ c2)) ++ a3) ++ ex).toArray.toList = pre ++ (a1 ++ (b1 ++ (c1 ++ c2)) ++ a3) ++ ex from rfl, e, e']
        exact splice hlen (by simp only [List.length_append]; omega)
      rw [hdisp] at r1
      refine ⟨_, h8, ?_, ?_, ?_⟩
      · refine hs.turn hro rfl hg hp ?_ r1 r2 r3 r4 r5 r6
        refine ⟨pre, _, ex, fr, rfl, q3, hm, hb, ?_, ?_⟩
        · rw [hn]; simp [hlen]
        · intro _ k hk; exact hf hro k (by simp only [List.length_append, hlen] at hk ⊢; omega)
      · intro j hj
        rw [cell_of_row w g _ _ _ _ e2, Array.getElem?_eq_getElem (by rw [hCsz]; omega)]
        rfl
      · intro j hj
        exact unfrozen_at e2 (by simpa using hf hro) (by rw [hCsz]; omega)
    · rw [hp] at e1; cases e1
theorem store_sound (ty : TypeId) (X Y : Operand) (o : Oper) (ho : o.op = .store ty X Y) (i : TypeInfo) (hi : P.info? ty = some i) (hs : Sim T w0 ρ h w) {v y : LVal} (hv : PV ρ v (a.eval X)) (hy : PV ρ y (a.eval Y))
    (hw : (storeRd i.size v y).wp t h Φ) : Res P o a w T w0 ρ h n Φ := by
  cases v <;> try exact hw.elim
  rename_i p
  obtain ⟨g, b, m, hp, hx⟩ := hv
  obtain ⟨sy, h1, hsy, hsz⟩ := cells_wp hy hw
  obtain ⟨o', h2, h3, h4, h5⟩ := put_run hs hp hsy (by rw [Array.length_toList, hsz]) h1
  have hone := PS.oneCells _ _ hsy
  generalize hyl : (a.eval Y).cells.toList = yl at *
  refine ⟨.undef, _, _, undef, ρ, w.setCells g (b + p.cell) yl, h2, .inr ⟨?_, rfl⟩, Ext.refl ρ, fun _ _ => rfl, rfl, h3⟩
  have hst : (storeVar ty ⟨g, b + p.cell, none⟩ (a.eval Y)).run P w = .ok () (w.setCells g (b + p.cell) yl) := by
    have := run_storeCells_cells (P := P) g (b + p.cell) yl 0 w (fun j hj => by rw [Nat.add_zero]; exact h4 j hj) (fun j hj => by rw [Nat.add_zero]; exact h5 j hj) hone
    simp only [Nat.add_zero] at this
    simp [storeVar, sizeOf, typeInfo, hi, hsz, hyl, this]
  unfold execOp
  simp only [ho, hx, Instr.storeAt, Instr.sureAddr, Sem.run_bind, Sem.run_pure, Result.andThen_ok, hst]
/- Package sync/atomic's, of an int64. -/
def atLoadRd : LVal → Rd
  | .ptr p => rdAt p fun s => match s with
    | .one (.int k n) _ => (match kEq k .i64 with
      | true => .ret (.int .i64 n) [] none
      | false => .fail)
    | _ => .fail
  | _ => .fail
def atAddRd : LVal → LVal → Rd
  | .ptr p, .int k y => rdAt p fun s => match s with
    | .one (.int k' n) _ => (match kEq k' .i64, kEq k .i64 with
      | true, true => putRd 1 p (.one (.int .i64 (IntKind.i64.wrap (n + y))) .nil) (.int .i64 (IntKind.i64.wrap (n + y)))
      | _, _ => .fail)
    | _ => .fail
  | _, _ => .fail
def atStoreRd : LVal → LVal → Rd
  | .ptr p, .int k y => putRd 1 p (.one (.int k y) .nil) (.tup .nil)
  | _, _ => .fail
def atomicOf (P : Program) (f : FuncId) : Option Nat :=
  match P.funcs[f]? with
  | none => none
  | some fn => match fn.body.isNone && (fn.origin == "" || fn.origin == fn.name) with
    | false => none
    | true => match fn.name == "sync/atomic.LoadInt64" with
      | true => some 0
      | false => match fn.name == "sync/atomic.AddInt64" with
        | true => some 1
        | false => match fn.name == "sync/atomic.StoreInt64" with
          | true => some 2
          | false => none
theorem find_at (fn : Func) (ho : fn.origin = "" ∨ fn.origin = fn.name) : (fn.name = "sync/atomic.LoadInt64" → Extern.find fn = some (Extern.Atomic.loadT (.int .i64)) ∧ Extern.findNext fn = none) ∧ (fn.name = "sync/atomic.AddInt64" → Extern.find fn = some (Extern.Atomic.update (Op.intArith .add) .i64 true) ∧ Extern.findNext fn = none) ∧ (fn.name = "sync/atomic.StoreInt64" → Extern.find fn = some (Extern.Atomic.storeT) ∧ Extern.findNext fn = none) := by
  have h5 : Extern.allNextRows.lookup "" = none := by kernel_rfl
  refine ⟨fun h => ?_, fun h => ?_, fun h => ?_⟩
  · have h1 : Extern.allGenericRows.lookup "sync/atomic.LoadInt64" = none := by kernel_rfl
    have h2 : Extern.allTypedRows.lookup "sync/atomic.LoadInt64" = none := by kernel_rfl
    have h3 : Extern.allRows.lookup "sync/atomic.LoadInt64" = some (Extern.Atomic.loadT (.int .i64)) := by kernel_rfl
    have h4 : Extern.allNextRows.lookup "sync/atomic.LoadInt64" = none := by kernel_rfl
    refine ⟨?_, ?_⟩
    · unfold Extern.find
      rw [h]
      simp [h1, h2, h3]
    · unfold Extern.findNext
      rcases ho with ho | ho
      · rw [h, ho]
        simp only [h4, h5]
        rfl
      · rw [ho, h]
        simp only [h4]
        rfl
  · have h1 : Extern.allGenericRows.lookup "sync/atomic.AddInt64" = none := by kernel_rfl
    have h2 : Extern.allTypedRows.lookup "sync/atomic.AddInt64" = none := by kernel_rfl
    have h3 : Extern.allRows.lookup "sync/atomic.AddInt64" = some (Extern.Atomic.update (Op.intArith .add) .i64 true) := by kernel_rfl
    have h4 : Extern.allNextRows.lookup "sync/atomic.AddInt64" = none := by kernel_rfl
    refine ⟨?_, ?_⟩
    · unfold Extern.find
      rw [h]
      simp [h1, h2, h3]
    · unfold Extern.findNext
      rcases ho with ho | ho
      · rw [h, ho]
        simp only [h4, h5]
        rfl
      · rw [ho, h]
        simp only [h4]
        rfl
  · have h1 : Extern.allGenericRows.lookup "sync/atomic.StoreInt64" = none := by kernel_rfl
    have h2 : Extern.allTypedRows.lookup "sync/atomic.StoreInt64" = none := by kernel_rfl
    have h3 : Extern.allRows.lookup "sync/atomic.StoreInt64" = some (Extern.Atomic.storeT) := by kernel_rfl
    have h4 : Extern.allNextRows.lookup "sync/atomic.StoreInt64" = none := by kernel_rfl
    refine ⟨?_, ?_⟩
    · unfold Extern.find
      rw [h]
      simp [h1, h2, h3]
    · unfold Extern.findNext
      rcases ho with ho | ho
      · rw [h, ho]
        simp only [h4, h5]
        rfl
      · rw [ho, h]
        simp only [h4]
        rfl
theorem atomicOf_spec {f : FuncId} {k : Nat} (h : atomicOf P f = some k) : ∃ fn, P.funcs[f]? = some fn ∧ (fn.name == "runtime.NumGoroutine") = false ∧ fn.body.isNone = true ∧ Extern.findNext fn = none ∧
    ((k = 0 ∧ Extern.find fn = some (Extern.Atomic.loadT (.int .i64))) ∨ (k = 1 ∧ Extern.find fn = some (Extern.Atomic.update (Op.intArith .add) .i64 true)) ∨ (k = 2 ∧ Extern.find fn = some (Extern.Atomic.storeT))) := by
  unfold atomicOf at h
  split at h
  · cases h
  · rename_i fn hf
    split at h
    · cases h
    · rename_i hb
      simp only [Bool.and_eq_true, Bool.or_eq_true, beq_iff_eq] at hb
      obtain ⟨hb, ho⟩ := hb
      obtain ⟨g1, g2, g3⟩ := find_at fn ho
      split at h
      · rename_i hn
        have hn := eq_of_beq hn
        cases h
        refine ⟨fn, hf, by rw [hn]; rfl, hb, (g1 hn).2, .inl ⟨rfl, (g1 hn).1⟩⟩
      · split at h
        · rename_i hn
          have hn := eq_of_beq hn
          cases h
          refine ⟨fn, hf, by rw [hn]; rfl, hb, (g2 hn).2, .inr (.inl ⟨rfl, (g2 hn).1⟩)⟩
        · split at h
          · rename_i hn
            have hn := eq_of_beq hn
            cases h
            refine ⟨fn, hf, by rw [hn]; rfl, hb, (g3 hn).2, .inr (.inr ⟨rfl, (g3 hn).1⟩)⟩
          · cases h
theorem fcall_exec {o : Oper} {f : FuncId} {args : Array Operand} {tys : Array TypeId} (ho : o.op = .call ⟨.value (.func f), args, tys⟩) {v : Value} {w' : World} (h : (callFunc f (args.map a.eval)).run P w = .ok (.value v) w') : (execOp a.eval o).run P w = .ok (.value v) w' := by
  have e : a.eval (.func f) = .func (.func f) #[] #[] := rfl
  unfold execOp
  simp [ho, resolve, invoke, Deferred.ofValue, e, h]
theorem atLoad_sound {f : FuncId} {X : Operand} {tys : Array TypeId} {o : Oper} (ho : o.op = .call ⟨.value (.func f), #[X], tys⟩) (hf : atomicOf P f = some 0) (hs : Sim T w0 ρ h w) {v : LVal} (hv : PV ρ v (a.eval X)) (hw : (atLoadRd v).wp t h Φ) : Res P o a w T w0 ρ h n Φ := by
  obtain ⟨fn, q1, q2, q3, q4, ⟨_, q5⟩ | ⟨q, _⟩ | ⟨q, _⟩⟩ := atomicOf_spec hf
  · cases v <;> try exact hw.elim
    rename_i p
    obtain ⟨g, b, m, hp, hx⟩ := hv
    obtain ⟨s, C, ty', fr, l1, l2, h1, h2, h3, h4, ⟨l3, l4, rfl, h5⟩, _⟩ := read_wp hs hp hw
    split at h1 <;> try exact h1.elim
    split at h1 <;> try exact h1.elim
    rename_i k nn r _ hk
    have hk := kEq_spec hk
    subst hk
    obtain ⟨x, l', rfl, h6, h7, _⟩ := h5
    have h6 : x = .int .i64 nn := h6
    subst h6
    have hcell : w.cell? ⟨g, b + p.cell, none⟩ = some (.int .i64 nn) := by
      have := cell_at h2 h3 0
      rw [h4] at this
      simpa using this
    refine Res.quiet hs h1 (x := .int .i64 nn) (fcall_exec ho ?_) rfl
    have e : (#[X].map a.eval) = #[.pointer (some ⟨g, b + p.cell, none⟩)] := by simp [hx]
    rw [e]
    exact run_call_load q1 q2 q3 q4 .i64 q5 hcell
  · cases q
  · cases q
theorem atAdd_sound {f : FuncId} {X Y : Operand} {tys : Array TypeId} {o : Oper} (ho : o.op = .call ⟨.value (.func f), #[X, Y], tys⟩) (hf : atomicOf P f = some 1) (hs : Sim T w0 ρ h w) {v y : LVal} (hv : PV ρ v (a.eval X)) (hy : PV ρ y (a.eval Y)) (hw : (atAddRd v y).wp t h Φ) : Res P o a w T w0 ρ h n Φ := by
  obtain ⟨fn, q1, q2, q3, q4, ⟨q, _⟩ | ⟨_, q5⟩ | ⟨q, _⟩⟩ := atomicOf_spec hf
  · cases q
  · cases v <;> try exact hw.elim
    cases y <;> try exact hw.elim
    rename_i p k y
    obtain ⟨g, b, m, hp, hx⟩ := hv
    have hy : a.eval Y = .int k y := hy
    obtain ⟨s, C, ty', fr, l1, l2, h1, h2, h3, h4, ⟨l3, l4, rfl, h5⟩, _⟩ := read_wp hs hp hw
    split at h1 <;> try exact h1.elim
    split at h1 <;> try exact h1.elim
    rename_i k' nn r _ _ hk' hk
    have hk' := kEq_spec hk'
    have hk := kEq_spec hk
    subst hk' hk
    obtain ⟨x, l', rfl, h6, h7, _⟩ := h5
    have h6 : x = .int .i64 nn := h6
    subst h6
    have hcell : w.cell? ⟨g, b + p.cell, none⟩ = some (.int .i64 nn) := by
      have := cell_at h2 h3 0
      rw [h4] at this
      simpa using this
    obtain ⟨o', k2, k3, k4, k5⟩ := put_run hs hp (sy := .one (.int .i64 (IntKind.i64.wrap (nn + y))) .nil) (yl := [.int .i64 (IntKind.i64.wrap (nn + y))]) ⟨_, [], rfl, rfl, rfl, rfl⟩ rfl h1
    refine ⟨_, _, _, .int .i64 (IntKind.i64.wrap (nn + y)), ρ, _, k2, .inl (fcall_exec ho ?_), Ext.refl ρ, fun _ _ => rfl, rfl, k3⟩
    have e : (#[X, Y].map a.eval) = #[.pointer (some ⟨g, b + p.cell, none⟩), .int .i64 y] := by simp [hx, hy]
    rw [e]
    exact run_call_add q1 q2 q3 q4 .i64 q5 hcell (k5 0 (by simp)) (by simp [Op.intArith])
  · cases q
theorem atStore_sound {f : FuncId} {X Y : Operand} {tys : Array TypeId} {o : Oper} (ho : o.op = .call ⟨.value (.func f), #[X, Y], tys⟩) (hf : atomicOf P f = some 2) (hs : Sim T w0 ρ h w) {v y : LVal} (hv : PV ρ v (a.eval X)) (hy : PV ρ y (a.eval Y)) (hw : (atStoreRd v y).wp t h Φ) : Res P o a w T w0 ρ h n Φ := by
  obtain ⟨fn, q1, q2, q3, q4, ⟨q, _⟩ | ⟨q, _⟩ | ⟨_, q5⟩⟩ := atomicOf_spec hf
  · cases q
  · cases q
  · cases v <;> try exact hw.elim
    cases y <;> try exact hw.elim
    rename_i p k y
    obtain ⟨g, b, m, hp, hx⟩ := hv
    have hy : a.eval Y = .int k y := hy
    obtain ⟨o', k2, k3, k4, k5⟩ := put_run hs hp (sy := .one (.int k y) .nil) (yl := [.int k y]) ⟨_, [], rfl, rfl, rfl, rfl⟩ rfl hw
    obtain ⟨u, hu⟩ := Option.isSome_iff_exists.1 (k4 0 (by simp))
    refine ⟨_, _, _, .tuple #[], ρ, _, k2, .inl (fcall_exec ho ?_), Ext.refl ρ, fun _ _ => rfl, ⟨[], rfl, rfl⟩, k3⟩
    have e : (#[X, Y].map a.eval) = #[.pointer (some ⟨g, b + p.cell, none⟩), .int k y] := by simp [hx, hy]
    rw [e]
    exact run_call_store q1 q2 q3 q4 q5 hu (k5 0 (by simp))
end
end Go.Proofs.Ytilmfhpoiejmfaa.Lh
