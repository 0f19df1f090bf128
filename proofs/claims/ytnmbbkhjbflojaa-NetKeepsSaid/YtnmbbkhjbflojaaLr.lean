/- A law's arguments, as blocks on the heap of the mind that are read alone; what its call leaves. Over any program. -/
import Derived.Test.YtnmbbkhjbflojaaLh12
import Derived.OpenShut
import Derived.ChangeSlices
import Derived.Below
import Derived.ChangeOld
import Derived.WalkKit
import Derived.ProofKit
namespace Go.Proofs.Ytnmbbkhjbflojaa.Lh
set_option linter.unusedSimpArgs false
set_option linter.unusedVariables false
open Go.RowKit Go.ChangeShapes Go.WideShapes Go.ChangeAt
/-- The blocks ahead of a call are read alone. -/
def TW (W : World) (r : Bool) (k : Nat) : Prop := match r with
  | true => k < W.heap.size
  | false => W.heap.size ≤ k
structure Held (W : World) (ρ : Pl) (h : LHeap) : Prop where
  sim : Sim (TW W) W ρ h W
  fresh : ∀ i, h.length ≤ i → ρ i = none
theorem Held.nil (W : World) : Held W (fun _ => none) [] :=
  ⟨⟨fun i o h => (by simp [hget] at h), fun i j oi oj g b n b' m h => (by simp [hget] at h), fun i g b n h => (by cases h), rfl, rfl, rfl, Nat.le_refl _, fun _ _ => rfl, fun _ h => h, fun k h1 h2 => by have h1 : k < W.heap.size := h1; have h2 : W.heap.size ≤ k := h2; omega⟩, fun _ _ => rfl⟩
theorem hget_append (h : LHeap) (o : Option LObj) (i : Nat) : hget (h ++ [o]) i = if i = h.length then o else hget h i := by
  induction h generalizing i with
  | nil => cases i <;> simp [hget]
  | cons x r ih =>
    cases i with
    | zero => simp [hget]
    | succ i => simp [hget, ih]
theorem Held.add_none {W : World} {ρ : Pl} {h : LHeap} (H : Held W ρ h) (o : LObj) (hp : ∀ ρ, PS ρ o.segs []) : Held W ρ (h ++ [some o]) := by
  refine ⟨⟨?_, ?_, H.sim.lt, rfl, rfl, rfl, Nat.le_refl _, fun _ _ => rfl, fun _ h => h, H.sim.apart⟩, fun i hi => H.fresh i (by simp at hi; omega)⟩
  · intro i oi hi
    rw [hget_append] at hi
    split at hi
    · rename_i e
      subst e
      cases hi
      exact .inr ⟨H.fresh _ (Nat.le_refl _), hp ρ⟩
    · exact H.sim.obj i oi hi
  · intro i j oi oj g b n b' m hi hj h1 h2 hT
    have h3 := H.sim.lt _ _ _ _ h1
    have h4 : W.heap.size ≤ g := hT
    omega
theorem Held.add_some {W : World} {ρ : Pl} {h : LHeap} (H : Held W ρ h) (o : LObj) (hro : o.ro = true) {g b n : Nat} {ob : Obj} (hg : W.heap[g]? = some ob) (hp : ∀ ρ, PO ρ b n o ob) : Held W (ρ.put h.length (g, b, n)) (h ++ [some o]) := by
  have hlt : g < W.heap.size := (Array.getElem?_eq_some_iff.1 hg).1
  have e := Pl.put_ext (H.fresh _ (Nat.le_refl _)) (g, b, n)
  have lt : ∀ i g' b' n', ρ.put h.length (g, b, n) i = some (g', b', n') → g' < W.heap.size := by
    intro i g' b' n' h1
    unfold Pl.put at h1
    split at h1
    · cases h1; exact hlt
    · exact H.sim.lt _ _ _ _ h1
  refine ⟨⟨?_, ?_, lt, rfl, rfl, rfl, Nat.le_refl _, fun _ _ => rfl, fun _ h => h, H.sim.apart⟩, ?_⟩
  · intro i oi hi
    rw [hget_append] at hi
    split at hi
    · rename_i c
      subst c
      cases hi
      exact .inl ⟨g, b, n, ob, by unfold Pl.put; rw [if_pos rfl], hg, hp _, by rw [hro]; exact hlt⟩
    · rename_i c
      rcases H.sim.obj i oi hi with ⟨g', b', n', ob', h1, h2, h3, h4⟩ | ⟨h1, h2⟩
      · exact .inl ⟨g', b', n', ob', e _ _ h1, h2, h3.ext e, h4⟩
      · exact .inr ⟨by unfold Pl.put; rw [if_neg c]; exact h1, PS.ext e _ _ h2⟩
  · intro i j oi oj g' b' n' b2 m hi hj h1 h2 hT
    have h3 := lt _ _ _ _ h1
    have h4 : W.heap.size ≤ g' := hT
    omega
  · intro i hi
    have hi : h.length + 1 ≤ i := by simpa using hi
    unfold Pl.put
    rw [if_neg (by omega)]
    exact H.fresh i (by omega)
section
variable {P : Program} {w : World} {H : Type} {enc : TypeId × Value → H} {base fuel : Nat} {held : Bool} {t e : TypeId} {x : DataW H × List MemPlace} {α : Type} [Inhabited α]
/-- A slice's content: its things, one behind the other. -/
theorem open_rows (emb : α → Segs) (ht : P.underlying t = some (.slice e)) (hw : 0 < P.cellsOf e) (hE : ∀ n cs x, DataW.trod enc P w base (fun _ => true) held n e cs = some x → ∃ a : α, ∀ ρ, PS ρ (emb a) cs) {p : Option Addr} {len cap : Nat}
    (h : DataW.trod enc P w base (fun _ => true) held fuel t [.slice p len cap] = some x) :
    len ≤ cap ∧ ∃ l : List α, l.length = len ∧ (cap = 0 ∨ ∃ g off C ty fr, p = some ⟨g, off, none⟩ ∧ w.heap[g]? = some (.cells C ty fr) ∧ off + cap * P.cellsOf e ≤ C.size ∧ ∀ i, i < len → ∀ ρ, PS ρ (emb (l.getD i default)) ((C.toList.drop (off + i * P.cellsOf e)).take (P.cellsOf e))) := by
  rcases DataW.trod_slice ht h with ⟨h1, _⟩ | ⟨a, len', cap', elems, rest, n, _, h1, _, hb, hl, hm, hlen, hel, hsp, _⟩
  · cases h1
    exact ⟨Nat.le_refl _, [], rfl, .inl rfl⟩
  · cases h1
    refine ⟨hl, ?_⟩
    obtain ⟨hr1, hr2⟩ := hsp rfl
    have each : ∀ i, i < cap → ∃ cs x, w.cells? base (a.add (i * P.cellsOf e)) (P.cellsOf e) = some cs ∧ DataW.trod enc P w base (fun _ => true) held n e cs = some x := by
      intro i hi
      by_cases c : i < len
      · have h2 := hel i c
        rw [List.getElem?_eq_getElem (by omega)] at h2
        obtain ⟨cs, h3, h4⟩ := Option.bind_eq_some_iff.1 h2
        exact ⟨cs, _, h3, h4⟩
      · have h2 := hr2 (i - len) (by omega)
        rw [List.getElem?_eq_getElem (by omega), show len + (i - len) = i by omega] at h2
        obtain ⟨cs, h3, h4⟩ := Option.bind_eq_some_iff.1 h2
        exact ⟨cs, _, h3, h4⟩
    have hch : ∀ i : Nat, ∃ b : α, i < cap → ∀ cs, w.cells? base (a.add (i * P.cellsOf e)) (P.cellsOf e) = some cs → ∀ ρ, PS ρ (emb b) cs := by
      intro i
      by_cases c : i < cap
      · obtain ⟨cs, y, h3, h4⟩ := each i c
        obtain ⟨b, hb⟩ := hE _ _ _ h4
        exact ⟨b, fun _ cs' h5 => by rw [h3] at h5; cases h5; exact hb⟩
      · exact ⟨default, fun c' => absurd c' c⟩
    refine ⟨(List.range len).map (fun i => (hch i).choose), by simp, ?_⟩
    by_cases c0 : cap = 0
    · exact .inl c0
    · right
      -- the first cell shows the block
      obtain ⟨cs0, y0, h3, _⟩ := each 0 (by omega)
      obtain ⟨g, off, sp⟩ := a
      have hblk : ∃ C ty fr, w.heap[g]? = some (.cells C ty fr) ∧ sp = none := by
        obtain ⟨_, h6, h7⟩ := World.cells?_some h3
        have h8 := h7 0 hw
        simp only [Nat.zero_mul, Addr.add, if_true] at h8
        rw [List.getElem?_eq_getElem (by omega)] at h8
        simp only [World.cell?] at h8
        split at h8
        · rename_i C ty fr hC
          refine ⟨C, ty, fr, hC, ?_⟩
          cases sp with
          | none => rfl
          | some z => simp at h8
        · cases h8
      obtain ⟨C, ty, fr, hC, rfl⟩ := hblk
      have hadd : ∀ k, Addr.add ⟨g, off, none⟩ k = ⟨g, off + k, none⟩ := by
        intro k
        unfold Addr.add
        split
        · rename_i h; subst h; rfl
        · rfl
      have hadd2 : ∀ k m, Addr.add (Addr.add ⟨g, off, none⟩ k) m = ⟨g, off + (k + m), none⟩ := by
        intro k m
        rw [hadd]
        unfold Addr.add
        split
        · rename_i h; subst h; rfl
        · simp only [Nat.add_assoc]
      have hcellC : ∀ k, w.cell? ⟨g, off + k, none⟩ = C[off + k]? := fun k => cell_of_row w g _ C ty fr hC
      have hcell0 : ∀ i, i < cap → ∀ j, j < P.cellsOf e → ∃ v, C[off + (i * P.cellsOf e + j)]? = some v := by
        intro i hi j hj
        obtain ⟨cs, y, h5, _⟩ := each i hi
        obtain ⟨_, h6, h7⟩ := World.cells?_some h5
        have h8 := h7 j hj
        rw [hadd2, hcellC] at h8
        refine ⟨cs[j]'(by omega), ?_⟩
        rw [h8, List.getElem?_eq_getElem (by omega)]
      refine ⟨g, off, C, ty, fr, rfl, hC, ?_, ?_⟩
      · obtain ⟨v, hv⟩ := hcell0 (cap - 1) (by omega) (P.cellsOf e - 1) (by omega)
        have := (Array.getElem?_eq_some_iff.1 hv).1
        have e1 : cap * P.cellsOf e = (cap - 1) * P.cellsOf e + P.cellsOf e := by
          conv => lhs; rw [show cap = (cap - 1) + 1 by omega, Nat.add_mul, Nat.one_mul]
        omega
      · intro i hi ρ
        obtain ⟨cs, y, h5, h6⟩ := each i (by omega)
        have h7 := (hch i).choose_spec (by omega) cs h5 ρ
        have h8 : ((List.range len).map (fun i => (hch i).choose)).getD i default = (hch i).choose := by
          simp [List.getD_eq_getElem?_getD, hi]
        rw [h8]
        obtain ⟨_, h9, h10⟩ := World.cells?_some h5
        have h11 : (C.toList.drop (off + i * P.cellsOf e)).take (P.cellsOf e) = cs := by
          apply List.ext_getElem?
          intro j
          by_cases hj : j < P.cellsOf e
          · rw [List.getElem?_take_of_lt hj, List.getElem?_drop, Array.getElem?_toList]
            have h12 := h10 j hj
            rw [hadd2, hcellC] at h12
            rw [← h12]
            congr 1; omega
          · rw [List.getElem?_eq_none (by simp; omega), List.getElem?_eq_none (by omega)]
        rw [h11]
        exact h7
/-- A slice handed in. -/
def inSl (b w n : Nat) : LVal := .slice ⟨b, [], 0⟩ 0 w n n none
theorem Held.slice {ρ : Pl} {h : LHeap} (Hh : Held w ρ h) (emb : α → Segs) {m : Nat} (hm : P.cellsOf e = m) (ht : P.underlying t = some (.slice e)) (hw : 0 < m) (hE : ∀ n cs x, DataW.trod enc P w base (fun _ => true) held n e cs = some x → ∃ a : α, ∀ ρ, PS ρ (emb a) cs) {p : Option Addr} {len cap : Nat}
    (hd : DataW.trod enc P w base (fun _ => true) held fuel t [.slice p len cap] = some x) :
    ∃ ρ' ty, ∃ l : List α, l.length = len ∧ Held w ρ' (h ++ [some ⟨.rows l.length m (fun i => emb (l.getD i default)) .nil, ty, true, true⟩]) ∧ Ext ρ ρ' ∧ PV ρ' (inSl h.length m l.length) (.slice p len cap) := by
  subst hm
  obtain ⟨hl, l, rfl, hc | ⟨g, off, C, ty, fr, rfl, hC, hsz, hps⟩⟩ := open_rows emb ht hw hE hd
  · have h0 : l.length = 0 := by omega
    subst hc
    refine ⟨ρ, 0, l, rfl, Hh.add_none _ (fun ρ => ?_), Ext.refl ρ, ⟨p, 0, rfl, .inl ⟨h0, h0, rfl⟩⟩⟩
    rw [h0]
    exact chunks_rows ⟨by simp, fun i hi => by omega⟩
  · have hmul : l.length * P.cellsOf e ≤ cap * P.cellsOf e := Nat.mul_le_mul_right _ hl
    refine ⟨ρ.put h.length (g, off, C.size - off), ty, l, rfl, Hh.add_some _ rfl hC (fun ρ => ?_), Pl.put_ext (Hh.fresh _ (Nat.le_refl _)) _, ⟨_, _, rfl, .inr ⟨g, off, _, by simp only [Pl.put, if_pos]; rfl, by simp [LAddr.cell, pathSum], Nat.le_refl _, hl, fun z hz => (by cases hz), ?_⟩⟩⟩
    · refine ⟨C.toList.take off, (C.toList.drop off).take (l.length * P.cellsOf e), (C.toList.drop off).drop (l.length * P.cellsOf e), fr, ?_, ?_, fun z => (by cases z), ?_, ?_, fun z => (by cases z)⟩
      · rw [List.append_assoc, List.take_append_drop, List.take_append_drop]
      · refine chunks_rows ⟨?_, fun i hi => ?_⟩
        · rw [List.length_take, List.length_drop, show C.toList.length = C.size from Array.length_toList, Nat.min_eq_left (by omega)]
        · have h1 := hps i hi ρ
          have h2 : i * P.cellsOf e + P.cellsOf e ≤ l.length * P.cellsOf e := mul_lt _ hi
          have h3 : (((C.toList.drop off).take (l.length * P.cellsOf e)).drop (i * P.cellsOf e)).take (P.cellsOf e) = (C.toList.drop (off + i * P.cellsOf e)).take (P.cellsOf e) := by
            rw [List.drop_take, List.drop_drop, List.take_take, Nat.min_eq_left (by omega)]
          rw [h3]
          exact h1
      · rw [List.length_take, Array.length_toList]; omega
      · simp only [List.length_append, List.length_take, List.length_drop, Array.length_toList]; omega
    · simp only [LAddr.cell, pathSum, Nat.zero_add]; omega
end
/-- A law's call: it holds, and what was handed in stands. -/
theorem LCalls.law {P : Program} {f : FuncId} {args : LVals} {h : LHeap} (c : LCalls P f args h (fun e _ => e = .ret (.bool true))) {W : World} {ρ : Pl} (Hh : Held W ρ h) {l : List Value} (hv : PVs ρ args l) :
    Calls P f l.toArray W fun e w' => e = .returned (.bool true) ∧ Below W.heap.size W w' := by
  refine (c.run (TW W) W ρ W l Hh.sim Hh.fresh hv).mono ?_
  rintro e w' ⟨r, h', ρ', rfl, h2, _, _, h5, _, _⟩
  refine ⟨?_, h5.os, h5.tape, h5.output, h5.size, fun k hk => h5.kept k (fun hT => ?_)⟩
  · cases e with
    | returned v =>
      have h2 : v = .bool true := h2
      rw [h2]
    | panicked c => exact h2.elim
    | outgrown => exact h2.elim
  · have hT : W.heap.size ≤ k := hT
    omega
end Go.Proofs.Ytnmbbkhjbflojaa.Lh
