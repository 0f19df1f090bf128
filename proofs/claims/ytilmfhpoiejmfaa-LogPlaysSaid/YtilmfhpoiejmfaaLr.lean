/- A law's arguments, as blocks on the heap of the mind that are read alone; what its call leaves. Over any program. -/
import Derived.Test.YtilmfhpoiejmfaaLh14
import Derived.OpenShut
import Derived.ChangeSlices
import Derived.Below
import Derived.ChangeOld
import Derived.WalkKit
import Derived.ProofKit
namespace Go.Proofs.Ytilmfhpoiejmfaa.Lh
set_option linter.unusedSimpArgs false
set_option linter.unusedVariables false
set_option linter.unusedSectionVars false
open Go.RowKit Go.ChangeShapes Go.WideShapes Go.ChangeAt
variable [Fz]
/-- Ahead of a law's call all stands still. -/
def ρi (W : World) : Pl := ⟨fun _ => none, fun k => W.heap[k]?, fun _ => none⟩
theorem clo_i (W : World) : (ρi W).clo = ρi W := rfl
def TW (W : World) (r k : Nat) : Prop := match r with
  | 0 => W.heap.size ≤ k
  | _ => k < W.heap.size
theorem start (W : World) (hg : ∀ g s, Fz.glob g = some s → PV (ρi W) (.rptr s) (.pointer (some ⟨g, 0, none⟩))) : Sim (TW W) W (ρi W) [] W := by
  refine ⟨fun i o h => (by simp [hget] at h), fun i j oi oj g b n b' m h => (by simp [hget] at h), fun i g b n h => (by cases h), rfl, rfl, rfl, Nat.le_refl _, fun _ _ => rfl, fun _ h => h, fun k h1 h2 => ?_, fun k o h => h, fun k o h => .inl (Array.getElem?_eq_some_iff.1 h).1, fun i o g b n h => (by simp [hget] at h), hg, ⟨0, fun _ _ => rfl⟩, fun _ _ => False, ⟨fun i o A h => (by simp [hget] at h), fun i o A k h => (by simp [hget] at h), fun i j oi oj A B k h => (by simp [hget] at h), fun i j oi oj A g b n h => (by simp [hget] at h)⟩⟩
  have h1 : k < W.heap.size := h1
  have h2 : W.heap.size ≤ k := h2
  omega
section
variable {P : Program} {w : World} {H : Type} {enc : TypeId × Value → H} {base fuel : Nat} {held : Bool} {t e : TypeId} {x : DataW H × List MemPlace} {α : Type} [Inhabited α]
/-- A slice's content: its things, one behind the other. -/
theorem weightsAll_mem {d : DataW H} {k : Nat} (hk : k ∈ d.weights P e) : ∀ {l : List (DataW H)}, d ∈ l → k ∈ DataW.weightsAll P e l
  | [], h => by cases h
  | x :: r, h => by
    simp only [DataW.weightsAll, List.mem_append]
    rcases List.mem_cons.1 h with rfl | h
    · exact .inl hk
    · exact .inr (weightsAll_mem hk h)
theorem weightsEach_mem {d : DataW H} {k : Nat} (hk : k ∈ d.weights P e) : ∀ {ts : List TypeId} {l : List (DataW H)} (i : Nat), ts[i]? = some e → l[i]? = some d → k ∈ DataW.weightsEach P ts l
  | [], l, i, h, _ => by simp at h
  | _ :: _, [], i, _, h => by simp at h
  | t0 :: ts, x :: r, i, h1, h2 => by
    simp only [DataW.weightsEach, List.mem_append]
    cases i with
    | zero =>
      simp only [List.getElem?_cons_zero, Option.some.injEq] at h1 h2
      subst h1 h2
      exact .inl hk
    | succ i => exact .inr (weightsEach_mem hk i (by simpa using h1) (by simpa using h2))
theorem open_rowsB {ρ : Pl} (emb : α → Segs) (ok : α → DataW H → Prop) (ht : P.underlying t = some (.slice e)) (hw : 0 < P.cellsOf e) (hE : ∀ n, n < fuel → ∀ cs x, DataW.trod enc P w base (fun _ => true) held n e cs = some x → (∀ k ∈ x.1.weights P e, k ≤ reachBytes) → ∃ a : α, ok a x.1 ∧ PS ρ (emb a) cs) {p : Option Addr} {len cap : Nat}
    (h : DataW.trod enc P w base (fun _ => true) held fuel t [.slice p len cap] = some x) (hwt : ∀ k ∈ x.1.weights P t, k ≤ reachBytes) :
    len ≤ cap ∧ len * P.bytesOf e ≤ reachBytes ∧ ∃ l : List α, l.length = len ∧ (∀ i, i < len → ∃ es sp d, x.1 = .slice es sp ∧ es.length = len ∧ d ∈ es ∧ ok (l.getD i default) d) ∧ (cap = 0 ∨ ∃ g off C ty fr, p = some ⟨g, off, none⟩ ∧ w.heap[g]? = some (.cells C ty fr) ∧ off + cap * P.cellsOf e ≤ C.size ∧ ∀ i, i < len → PS ρ (emb (l.getD i default)) ((C.toList.drop (off + i * P.cellsOf e)).take (P.cellsOf e))) := by
  rcases DataW.trod_slice ht h with ⟨h1, _⟩ | ⟨a, len', cap', elems, rest, n, hfu, h1, hx, hb, hl, hm, hlen, hel, hsp, _⟩
  · cases h1
    exact ⟨Nat.le_refl _, by simp, [], rfl, fun i hi => absurd hi (Nat.not_lt_zero _), .inl rfl⟩
  · cases h1
    subst hx
    obtain ⟨hr1, hr2⟩ := hsp rfl
    have hwh : (elems.length + rest.length) * P.bytesOf e ≤ reachBytes := hwt _ (by simp [DataW.weights, ht])
    have hwe : ∀ y ∈ elems ++ rest, ∀ k ∈ y.1.weights P e, k ≤ reachBytes := by
      intro y hy k hk
      refine hwt k ?_
      simp only [DataW.weights, ht, List.mem_cons, List.mem_append]
      rcases List.mem_append.1 hy with hy | hy
      · exact .inr (.inl (weightsAll_mem hk (List.mem_map_of_mem hy)))
      · exact .inr (.inr (weightsAll_mem hk (List.mem_map_of_mem hy)))
    refine ⟨hl, Nat.le_trans (Nat.mul_le_mul_right _ (by omega)) hwh, ?_⟩
    have each : ∀ i, i < cap → ∃ cs x, w.cells? base (a.add (i * P.cellsOf e)) (P.cellsOf e) = some cs ∧ DataW.trod enc P w base (fun _ => true) held n e cs = some x ∧ (∀ k ∈ x.1.weights P e, k ≤ reachBytes) ∧ (i < len → x ∈ elems) := by
      intro i hi
      by_cases c : i < len
      · have h2 := hel i c
        rw [List.getElem?_eq_getElem (by omega)] at h2
        obtain ⟨cs, h3, h4⟩ := Option.bind_eq_some_iff.1 h2
        exact ⟨cs, _, h3, h4, hwe _ (List.mem_append_left _ (List.getElem_mem _)), fun _ => List.getElem_mem _⟩
      · have h2 := hr2 (i - len) (by omega)
        rw [List.getElem?_eq_getElem (by omega), show len + (i - len) = i by omega] at h2
        obtain ⟨cs, h3, h4⟩ := Option.bind_eq_some_iff.1 h2
        exact ⟨cs, _, h3, h4, hwe _ (List.mem_append_right _ (List.getElem_mem _)), fun h => absurd h c⟩
    have hch : ∀ i : Nat, ∃ b : α, i < cap → (i < len → ∃ d ∈ elems.map (·.1), ok b d) ∧ ∀ cs, w.cells? base (a.add (i * P.cellsOf e)) (P.cellsOf e) = some cs → PS ρ (emb b) cs := by
      intro i
      by_cases c : i < cap
      · obtain ⟨cs, y, h3, h4, h4', h4e⟩ := each i c
        obtain ⟨b, hok, hb⟩ := hE n (by omega) _ _ h4 h4'
        exact ⟨b, fun _ => ⟨fun h => ⟨_, List.mem_map_of_mem (h4e h), hok⟩, fun cs' h5 => by rw [h3] at h5; cases h5; exact hb⟩⟩
      · exact ⟨default, fun c' => absurd c' c⟩
    refine ⟨(List.range len).map (fun i => (hch i).choose), by simp, fun i hi => ?_, ?_⟩
    · have h8 : ((List.range len).map (fun i => (hch i).choose)).getD i default = (hch i).choose := by
        simp [List.getD_eq_getElem?_getD, hi]
      rw [h8]
      obtain ⟨d, hd1, hd2⟩ := ((hch i).choose_spec (by omega)).1 hi
      exact ⟨_, _, d, rfl, by rw [List.length_map, hlen], hd1, hd2⟩
    by_cases c0 : cap = 0
    · exact .inl c0
    · right
      -- the first cell shows the block
      obtain ⟨cs0, y0, h3, _, _, _⟩ := each 0 (by omega)
      obtain ⟨g, off, sp⟩ := a
      have hblk : ∃ C ty fr, w.heap[g]? = some (.cells C ty fr) ∧ sp = none := by
        obtain ⟨_, h6, h7⟩ := World.cells?_some h3
        have h8 := h7 0 hw
        simp only [Nat.zero_mul, Addr.add, if_true] at h8
        rw [List.getElem?_eq_getElem (by omega)] at h8
        simp only [World.cell?] at h8
        split at h8
        · rename_i C ty fr hC
          refine ⟨C, ty, fr, hC, ?_⟩
          cases sp with
          | none => rfl
          | some z => simp at h8
        · cases h8
      obtain ⟨C, ty, fr, hC, rfl⟩ := hblk
      have hadd : ∀ k, Addr.add ⟨g, off, none⟩ k = ⟨g, off + k, none⟩ := by
        intro k
        unfold Addr.add
        split
        · rename_i h; subst h; rfl
        · rfl
      have hadd2 : ∀ k m, Addr.add (Addr.add ⟨g, off, none⟩ k) m = ⟨g, off + (k + m), none⟩ := by
        intro k m
        rw [hadd]
        unfold Addr.add
        split
        · rename_i h; subst h; rfl
        · simp only [Nat.add_assoc]
      have hcellC : ∀ k, w.cell? ⟨g, off + k, none⟩ = C[off + k]? := fun k => cell_of_row w g _ C ty fr hC
      have hcell0 : ∀ i, i < cap → ∀ j, j < P.cellsOf e → ∃ v, C[off + (i * P.cellsOf e + j)]? = some v := by
        intro i hi j hj
        obtain ⟨cs, y, h5, _, _, _⟩ := each i hi
        obtain ⟨_, h6, h7⟩ := World.cells?_some h5
        have h8 := h7 j hj
        rw [hadd2, hcellC] at h8
        refine ⟨cs[j]'(by omega), ?_⟩
        rw [h8, List.getElem?_eq_getElem (by omega)]
      refine ⟨g, off, C, ty, fr, rfl, hC, ?_, ?_⟩
      · obtain ⟨v, hv⟩ := hcell0 (cap - 1) (by omega) (P.cellsOf e - 1) (by omega)
        have := (Array.getElem?_eq_some_iff.1 hv).1
        have e1 : cap * P.cellsOf e = (cap - 1) * P.cellsOf e + P.cellsOf e := by
          conv => lhs; rw [show cap = (cap - 1) + 1 by omega, Nat.add_mul, Nat.one_mul]
        omega
      · intro i hi
        obtain ⟨cs, y, h5, h6, _, _⟩ := each i (by omega)
        have h7 := ((hch i).choose_spec (by omega)).2 cs h5
        have h8 : ((List.range len).map (fun i => (hch i).choose)).getD i default = (hch i).choose := by
          simp [List.getD_eq_getElem?_getD, hi]
        rw [h8]
        obtain ⟨_, h9, h10⟩ := World.cells?_some h5
        have h11 : (C.toList.drop (off + i * P.cellsOf e)).take (P.cellsOf e) = cs := by
          apply List.ext_getElem?
          intro j
          by_cases hj : j < P.cellsOf e
          · rw [List.getElem?_take_of_lt hj, List.getElem?_drop, Array.getElem?_toList]
            have h12 := h10 j hj
            rw [hadd2, hcellC] at h12
            rw [← h12]
            congr 1; omega
          · rw [List.getElem?_eq_none (by simp; omega), List.getElem?_eq_none (by omega)]
        rw [h11]
        exact h7
theorem open_rows {ρ : Pl} (emb : α → Segs) (ok : α → Prop) (ht : P.underlying t = some (.slice e)) (hw : 0 < P.cellsOf e) (hE : ∀ n cs x, DataW.trod enc P w base (fun _ => true) held n e cs = some x → (∀ k ∈ x.1.weights P e, k ≤ reachBytes) → ∃ a : α, ok a ∧ PS ρ (emb a) cs) {p : Option Addr} {len cap : Nat}
    (h : DataW.trod enc P w base (fun _ => true) held fuel t [.slice p len cap] = some x) (hwt : ∀ k ∈ x.1.weights P t, k ≤ reachBytes) :
    len ≤ cap ∧ len * P.bytesOf e ≤ reachBytes ∧ ∃ l : List α, l.length = len ∧ (∀ i, i < len → ok (l.getD i default)) ∧ (cap = 0 ∨ ∃ g off C ty fr, p = some ⟨g, off, none⟩ ∧ w.heap[g]? = some (.cells C ty fr) ∧ off + cap * P.cellsOf e ≤ C.size ∧ ∀ i, i < len → PS ρ (emb (l.getD i default)) ((C.toList.drop (off + i * P.cellsOf e)).take (P.cellsOf e))) := by
  obtain ⟨h1, h2, l, h3, h4, h5⟩ := open_rowsB emb (fun a _ => ok a) ht hw (fun n _ => hE n) h hwt
  exact ⟨h1, h2, l, h3, fun i hi => (h4 i hi).elim fun _ q => q.elim fun _ q => q.elim fun _ q => q.2.2.2, h5⟩
theorem open_rslB {W : World} (emb : α → Segs) (ok : α → DataW H → Prop) {m : Nat} (hm : P.cellsOf e = m) (ht : P.underlying t = some (.slice e)) (hw : 0 < m) (hE : ∀ n, n < fuel → ∀ cs x, DataW.trod enc P W base (fun _ => true) held n e cs = some x → (∀ k ∈ x.1.weights P e, k ≤ reachBytes) → ∃ a : α, ok a x.1 ∧ PS (ρi W) (emb a) cs) {p : Option Addr} {len cap : Nat}
    (hd : DataW.trod enc P W base (fun _ => true) held fuel t [.slice p len cap] = some x) (hwt : ∀ k ∈ x.1.weights P t, k ≤ reachBytes) :
    ∃ l : List α, l.length * P.bytesOf e ≤ reachBytes ∧ (∀ i, i < l.length → ∃ es sp d, x.1 = .slice es sp ∧ es.length = l.length ∧ d ∈ es ∧ ok (l.getD i default) d) ∧ PV (ρi W) (.rsl l.length m (fun i => emb (l.getD i default))) (.slice p len cap) := by
  subst hm
  obtain ⟨hl, hb, l, rfl, hok, hc | ⟨g, off, C, ty, fr, rfl, hC, hsz, hps⟩⟩ := open_rowsB (ρ := ρi W) emb ok ht hw hE hd hwt
  · exact ⟨l, hb, hok, p, cap, rfl, hl, .inl (by omega)⟩
  · have hmul : l.length * P.cellsOf e ≤ cap * P.cellsOf e := Nat.mul_le_mul_right _ hl
    refine ⟨l, hb, hok, _, cap, rfl, hl, .inr ⟨g, off, (C.toList.drop off).take (l.length * P.cellsOf e), rfl, ⟨C, ty, fr, hC, by omega, (C.toList.drop off).drop (l.length * P.cellsOf e), by rw [List.take_append_drop]⟩, ?_, fun i hi => ?_⟩⟩
    · rw [List.length_take, List.length_drop, show C.toList.length = C.size from Array.length_toList, Nat.min_eq_left (by omega)]
    · have h1 := hps i hi
      have h2 : i * P.cellsOf e + P.cellsOf e ≤ l.length * P.cellsOf e := mul_lt _ hi
      rw [List.drop_take, List.drop_drop, List.take_take, Nat.min_eq_left (by omega)]
      exact h1
theorem open_rsl {W : World} (emb : α → Segs) (ok : α → Prop) {m : Nat} (hm : P.cellsOf e = m) (ht : P.underlying t = some (.slice e)) (hw : 0 < m) (hE : ∀ n cs x, DataW.trod enc P W base (fun _ => true) held n e cs = some x → (∀ k ∈ x.1.weights P e, k ≤ reachBytes) → ∃ a : α, ok a ∧ PS (ρi W) (emb a) cs) {p : Option Addr} {len cap : Nat}
    (hd : DataW.trod enc P W base (fun _ => true) held fuel t [.slice p len cap] = some x) (hwt : ∀ k ∈ x.1.weights P t, k ≤ reachBytes) :
    ∃ l : List α, l.length * P.bytesOf e ≤ reachBytes ∧ (∀ i, i < l.length → ok (l.getD i default)) ∧ PV (ρi W) (.rsl l.length m (fun i => emb (l.getD i default))) (.slice p len cap) := by
  subst hm
  obtain ⟨hl, hb, l, rfl, hok, hc | ⟨g, off, C, ty, fr, rfl, hC, hsz, hps⟩⟩ := open_rows (ρ := ρi W) emb ok ht hw hE hd hwt
  · exact ⟨l, hb, hok, p, cap, rfl, hl, .inl (by omega)⟩
  · have hmul : l.length * P.cellsOf e ≤ cap * P.cellsOf e := Nat.mul_le_mul_right _ hl
    refine ⟨l, hb, hok, _, cap, rfl, hl, .inr ⟨g, off, (C.toList.drop off).take (l.length * P.cellsOf e), rfl, ⟨C, ty, fr, hC, by omega, (C.toList.drop off).drop (l.length * P.cellsOf e), by rw [List.take_append_drop]⟩, ?_, fun i hi => ?_⟩⟩
    · rw [List.length_take, List.length_drop, show C.toList.length = C.size from Array.length_toList, Nat.min_eq_left (by omega)]
    · have h1 := hps i hi
      have h2 : i * P.cellsOf e + P.cellsOf e ≤ l.length * P.cellsOf e := mul_lt _ hi
      rw [List.drop_take, List.drop_drop, List.take_take, Nat.min_eq_left (by omega)]
      exact h1
/-- What a type's things are told as. -/
def Opens (enc : TypeId × Value → H) (P : Program) (W : World) (base : Nat) (held : Bool) (t : TypeId) {α : Type} (emb : α → Segs) (ok : α → Prop) : Prop :=
  ∀ n cs x, DataW.trod enc P W base (fun _ => true) held n t cs = some x → (∀ k ∈ x.1.weights P t, k ≤ reachBytes) → ∃ a : α, ok a ∧ PS (ρi W) (emb a) cs
theorem opens_int {W : World} {k : IntKind} (ht : P.underlying t = some (.int k)) : Opens enc P W base held t (fun n : Int => .one (.int k n) .nil) (fun n => (Lit.int k n).wf = true) := by
  intro n cs x h _
  obtain ⟨a, rfl, _, h3⟩ := DataW.trod_int ht h
  exact ⟨a, h3, _, _, rfl, rfl, rfl, rfl⟩
theorem opens_bool {W : World} (ht : P.underlying t = some .bool) : Opens enc P W base held t (fun n : Bool => .one (.bool n) .nil) (fun _ => True) := by
  intro n cs x h _
  obtain ⟨a, rfl, _⟩ := DataW.trod_bool ht h
  exact ⟨a, trivial, _, _, rfl, rfl, rfl, rfl⟩
theorem opens_string {W : World} (ht : P.underlying t = some .string) : Opens enc P W base held t (fun s : ByteArray => .one (.str s) .nil) (fun s => s.size ≤ reachBytes) := by
  intro n cs x h hk
  obtain ⟨a, rfl, rfl, _⟩ := DataW.trod_string ht h
  refine ⟨a, ?_, _, _, rfl, rfl, rfl, rfl⟩
  have := hk a.data.toList.length (by simp [DataW.weights])
  simpa using this
theorem opens_slice {W : World} [Inhabited α] {emb : α → Segs} {ok : α → Prop} (he : Opens enc P W base held e emb ok) {m : Nat} (hm : P.cellsOf e = m) (ht : P.underlying t = some (.slice e)) (hw : 0 < m) :
    Opens enc P W base held t (fun l : List α => .one (.rsl l.length m (fun i => emb (l.getD i default))) .nil) (fun l => l.length * P.bytesOf e ≤ reachBytes ∧ ∀ i, i < l.length → ok (l.getD i default)) := by
  intro n cs x h hk
  have : ∃ p len cap, cs = [.slice p len cap] := by
    rcases DataW.trod_slice ht h with ⟨rfl, _⟩ | ⟨a, len, cap, _, _, _, _, rfl, _⟩
    · exact ⟨_, _, _, rfl⟩
    · exact ⟨_, _, _, rfl⟩
  obtain ⟨p, len, cap, rfl⟩ := this
  obtain ⟨l, h1, h2, h3⟩ := open_rsl emb ok hm ht hw he h hk
  exact ⟨l, ⟨h1, h2⟩, _, _, rfl, h3, rfl, rfl⟩
/-- A struct's field, told. -/
theorem opens_field {W : World} {fs : Array Field} {cs : List Value} {x : DataW H × List MemPlace} (ht : P.underlying t = some (.struct fs)) (h : DataW.trod enc P W base (fun _ => true) held fuel t cs = some x) (hk : ∀ k ∈ x.1.weights P t, k ≤ reachBytes)
    {i : Nat} {f : Field} (hf : fs[i]? = some f) {emb : α → Segs} {ok : α → Prop} (he : Opens enc P W base held f.type emb ok) : ∃ a : α, ok a ∧ PS (ρi W) (emb a) ((cs.drop f.offset).take (P.cellsOf f.type)) := by
  obtain ⟨xs, n, rfl, rfl, hl, hx, hfs⟩ := DataW.trod_struct ht h
  have h1 := hfs i f hf
  have hi : i < xs.length := by
    rw [hx]
    exact (Array.getElem?_eq_some_iff.1 hf).1
  rw [List.getElem?_eq_getElem hi] at h1
  refine he _ _ _ h1 (fun k hk' => hk k ?_)
  simp only [DataW.weights, ht]
  refine weightsEach_mem (e := f.type) (d := xs[i].1) hk' i ?_ ?_
  · rw [List.getElem?_map, Array.getElem?_toList, hf]; rfl
  · rw [List.getElem?_map, List.getElem?_eq_getElem hi]; rfl
/-- A struct's field, told. -/
theorem opens_fieldB {W : World} {fs : Array Field} {cs : List Value} {x : DataW H × List MemPlace} (ht : P.underlying t = some (.struct fs)) (h : DataW.trod enc P W base (fun _ => true) held fuel t cs = some x) (hk : ∀ k ∈ x.1.weights P t, k ≤ reachBytes)
    {i : Nat} {f : Field} (hf : fs[i]? = some f) {emb : α → Segs} {ok : α → DataW H → Prop} (he : ∀ n, n < fuel → ∀ cs x, DataW.trod enc P W base (fun _ => true) held n f.type cs = some x → (∀ k ∈ x.1.weights P f.type, k ≤ reachBytes) → ∃ a : α, ok a x.1 ∧ PS (ρi W) (emb a) cs) : ∃ a : α, (∃ ps d, x.1 = .agg ps ∧ d ∈ ps ∧ ok a d) ∧ PS (ρi W) (emb a) ((cs.drop f.offset).take (P.cellsOf f.type)) := by
  obtain ⟨xs, n, hfu, rfl, hl, hx, hfs⟩ := DataW.trod_struct ht h
  have h1 := hfs i f hf
  have hi : i < xs.length := by
    rw [hx]
    exact (Array.getElem?_eq_some_iff.1 hf).1
  rw [List.getElem?_eq_getElem hi] at h1
  obtain ⟨a, h2, h3⟩ := he n (by omega) _ _ h1 (fun k hk' => hk k (by
    simp only [DataW.weights, ht]
    refine weightsEach_mem (e := f.type) (d := xs[i].1) hk' i ?_ ?_
    · rw [List.getElem?_map, Array.getElem?_toList, hf]; rfl
    · rw [List.getElem?_map, List.getElem?_eq_getElem hi]; rfl))
  exact ⟨a, ⟨_, _, rfl, List.mem_map_of_mem (List.getElem_mem _), h2⟩, h3⟩
theorem PS.app {ρ : Pl} : ∀ (s s' : Segs) (l l' : List Value), PS ρ s l → PS ρ s' l' → PS ρ (segApp s s') (l ++ l')
  | .nil, s', l, l', h, h' => by
    have : l = [] := h
    subst this; exact h'
  | .one v r, s', l, l', h, h' => by
    obtain ⟨x, m, rfl, h1, h2, h3⟩ := h
    exact ⟨x, m ++ l', rfl, h1, h2, PS.app r s' m l' h3 h'⟩
  | .rows n w f r, s', l, l', h, h' => by
    obtain ⟨ls, m, rfl, h1, h2, h3⟩ := h
    exact ⟨ls, m ++ l', by simp, h1, h2, PS.app r s' m l' h3 h'⟩
  | .res _, s', l, l', h, h' => False.elim h
end
/-- A law's call: it holds, and what was handed in stands. -/
theorem LCalls.law {P : Program} {f : FuncId} {args : LVals} (c : LCalls P f args [] (fun e _ => e = .ret (.bool true))) {W : World} (hg : ∀ g s, Fz.glob g = some s → PV (ρi W) (.rptr s) (.pointer (some ⟨g, 0, none⟩))) {l : List Value} (hv : PVs (ρi W) args l) :
    Calls P f l.toArray W fun e w' => e = .returned (.bool true) ∧ Below W.heap.size W w' := by
  refine (c.run (TW W) W (ρi W) W l (start W hg) (fun _ _ => rfl) hv).mono ?_
  rintro e w' ⟨r, h', ρ', rfl, h2, _, _, h5, _, _⟩
  refine ⟨?_, h5.os, h5.tape, h5.output, h5.size, fun k hk => h5.kept k (fun hT => ?_)⟩
  · cases e with
    | returned v =>
      have h2 : v = .bool true := h2
      rw [h2]
    | panicked c => exact h2.elim
    | outgrown => exact h2.elim
  · have hT : W.heap.size ≤ k := hT
    omega
mutual
/-- A thing that names no block. -/
def closedV : LVal → Bool
  | .bool _ => true
  | .int _ _ => true
  | .str _ => true
  | .tup vs => closedVs vs
  | _ => false
def closedVs : LVals → Bool
  | .nil => true
  | .cons v r => closedV v && closedVs r
end
mutual
theorem closedV_spec {ρ ρ' : Pl} : ∀ (v : LVal) (x : Value), closedV v = true → PV ρ v x → PV ρ' v x
  | .bool _, _, _, h => h
  | .int _ _, _, _, h => h
  | .str _, _, _, h => h
  | .tup vs, _, hc, h => by
    obtain ⟨l, h1, h2⟩ := h
    exact ⟨l, closedVs_spec vs l hc h1, h2⟩
theorem closedVs_spec {ρ ρ' : Pl} : ∀ (v : LVals) (l : List Value), closedVs v = true → PVs ρ v l → PVs ρ' v l
  | .nil, _, _, h => h
  | .cons v r, _, hc, h => by
    obtain ⟨x, l', h1, h2, h3⟩ := h
    have hc : (closedV v && closedVs r) = true := hc
    rw [Bool.and_eq_true] at hc
    exact ⟨x, l', h1, closedV_spec v x hc.1 h2, closedVs_spec r l' hc.2 h3⟩
end
theorem PVs_at {ρ ρ' : Pl} (e : Ext ρ ρ') {vs : LVals} {l : List Value} (h : PVs ρ vs l) : PVs ρ' vs l := PVs.ext e vs l h
/-- Rows that are the caller's own, lent: the callee reads them alone, and gives a thing back that names no block. -/
theorem LCalls.lend {P : Program} {f : FuncId} {args args' : LVals} {h : LHeap} {R : LVal → Prop} (F : Fzl) (hF : frzOK h [] F) (hv : shVs 0 (frzAll [] F) args args') (c : LCalls P f args' [] (fun e _ => ∃ v, e = .ret v ∧ closedV v = true ∧ R v)) :
    LCalls P f args h (fun e h' => ∃ v, e = .ret v ∧ R v ∧ h' = h) := by
  refine ⟨c.has, fun T w0 ρ w l hs hf hp => ?_⟩
  obtain ⟨ρ1, s1, e1, a1, f1, _⟩ := Sim.frz F [] h ρ hF (fun _ _ => rfl) (FzOK.nil ρ) hs rfl
  have hp1 := shVs_spec f1 args args' l hv (PVs.ext e1 _ _ hp)
  have e0 : ExtR ρ1 ⟨fun _ => none, fun k => w.heap[k]?, ρ1.tk⟩ := ⟨fun g o hg => s1.fz g o hg, fun _ _ h => h⟩
  have e2 : Ext (cutP ρ1 0) ⟨fun _ => none, fun k => w.heap[k]?, ρ1.tk⟩ := ⟨fun b x hb => (by rw [cutP_at, if_neg (Nat.not_lt_zero b)] at hb; cases hb), e0⟩
  have s2 : Sim (TW w) w ⟨fun _ => none, fun k => w.heap[k]?, ρ1.tk⟩ [] w := by
    refine ⟨fun i o h => (by simp [hget] at h), fun i j oi oj g b n b' m h => (by simp [hget] at h), fun i g b n h => (by cases h), rfl, rfl, rfl, Nat.le_refl _, fun _ _ => rfl, fun _ h => h, fun k h1 h2 => ?_, fun k o h => h, fun k o h => .inl (Array.getElem?_eq_some_iff.1 h).1, fun i o g b n h => (by simp [hget] at h), fun g s hg => PV.ext (Ext.clo e0) _ _ (s1.glob g s hg), s1.tks, fun _ _ => False, ⟨fun i o A h => (by simp [hget] at h), fun i o A k h => (by simp [hget] at h), fun i j oi oj A B k h => (by simp [hget] at h), fun i j oi oj A g b n h => (by simp [hget] at h)⟩⟩
    have h1 : k < w.heap.size := h1
    have h2 : w.heap.size ≤ k := h2
    omega
  refine (c.run (TW w) w _ w l s2 (fun _ _ => rfl) (PVs.ext e2 _ _ hp1)).mono ?_
  rintro e w' ⟨_, h', ρ', ⟨v, rfl, hc, hR⟩, h2, _, _, h5, _, _⟩
  have hb : Below w.heap.size w w' := ⟨h5.os, h5.tape, h5.output, h5.size, fun k hk => h5.kept k (fun hT => by
    have hT : w.heap.size ≤ k := hT
    omega)⟩
  refine ⟨.ret v, h, ρ, ⟨v, rfl, hR, rfl⟩, ?_, Ext.refl ρ, fun _ _ => rfl, hs.below hb, hf, Nat.le_refl _⟩
  cases e with
  | returned x => exact closedV_spec (ρ := ρ') v x hc h2
  | panicked c => exact h2.elim
  | outgrown => exact h2.elim
end Go.Proofs.Ytilmfhpoiejmfaa.Lh
