/- Append and copy. Over any program. -/
import Derived.Test.YtilmfhpoiejmfaaLh6
namespace Go.Proofs.Ytilmfhpoiejmfaa.Lh
set_option linter.unusedSimpArgs false
set_option linter.unusedVariables false
set_option linter.unusedSectionVars false
open Go.RowKit
variable [Fz]
section
variable {T : Nat → Nat → Prop} {w0 : World} {ρ : Pl} {h : LHeap} {w : World} {t : List LVal} {a : Act} {Φ : LVal → List (Nat × Option LObj) → Option LObj → Prop} {P : Program} {n : Nat}
def byteSeg (s : ByteArray) (i : Nat) : Segs := .one (.int .u8 ((s.data.toList.getD i 0).toNat : Int)) .nil
/-- What is read of a slice, or of a string. -/
def srcK (w : Nat) (y : LVal) (K : Nat → (Nat → Segs) → Option Nat → Rd) : Rd :=
  match y with
  | .str s => match Nat.beq w 1 with
    | true => K s.size (byteSeg s) none
    | false => .fail
  | .slice p st w' len _ _ => match Nat.beq w' 0 with
    | true => match Nat.beq len 0 with
      | true => K 0 (fun _ => .nil) none
      | false => .fail
    | false => match Nat.beq w w' with
      | true => rdAt p fun s => match s with
        | .rows m w2 f _ => match Nat.beq w w2 with
          | true => .need (st + len ≤ m) (K len (fun i => f (st + i)) (some p.blk))
          | false => .fail
        | _ => .fail
      | false => .fail
  | .rsl n w' f => match Nat.beq w w' with
    | true => K n f none
    | false => .fail
  | _ => .fail
theorem cells_read {w : World} {g : Nat} {C : Array Value} {ty : TypeId} {fr : Nat × Nat} (hg : w.heap[g]? = some (.cells C ty fr)) {l1 l2 l3 : List Value} (hC : C.toList = l1 ++ (l2 ++ l3)) : ∀ j v, l2[j]? = some v → w.cell? ((⟨g, l1.length, none⟩ : Addr).add j) = some v := by
  intro j v hj
  rw [Addr.add_mid, cell_at hg hC j, List.getElem?_append_left ((List.getElem?_eq_some_iff.1 hj).1)]
  exact hj
/-- The source is read: in any world of this heap. -/
theorem src_wp (hs : Sim T w0 ρ h w) {m0 : Nat} {y : LVal} {Y : Value} (hy : PV ρ y Y) {K : Nat → (Nat → Segs) → Option Nat → Rd} (hw : (srcK m0 y K).wp t h Φ) :
    ∃ m g yb l, (K m g yb).wp t h Φ ∧ Chunks ρ m0 m g l ∧ (∀ w1 : World, (Builtin.lenOf Y).run P w1 = .ok m w1) ∧ (∀ k, k ≤ m → ∀ w1 : World, w1.heap = w.heap → (Builtin.firstCells m0 k Y).run P w1 = .ok (l.take (k * m0)).toArray w1) ∧
      ((∃ s, Y = .string s) ∨ ∃ p x c, Y = .slice p x c) ∧ (∀ b, yb = some b → ∃ o, hget h b = some o) := by
  cases y <;> try exact hw.elim
  · rename_i s
    have e : Y = .string s := hy
    subst e
    simp only [srcK] at hw
    split at hw
    · rename_i hb
      have hb := Nat.eq_of_beq_eq_true hb
      subst hb
      refine ⟨_, _, _, s.data.toList.map fun b => .int .u8 b.toNat, hw, ⟨by simp, fun i hi => ?_⟩, fun _ => rfl, fun k hk w1 _ => ?_, .inl ⟨s, rfl⟩, fun b e => by cases e⟩
      · have hi' : i < s.data.toList.length := by simpa using hi
        rw [Nat.mul_one, List.drop_eq_getElem_cons (by simpa using hi'), List.take_succ_cons, List.take_zero]
        refine ⟨_, [], rfl, ?_, by rw [List.getElem_map]; rfl, rfl⟩
        show _ = _
        rw [List.getElem_map, List.getD_eq_getElem?_getD, List.getElem?_eq_getElem hi']
        rfl
      · simp only [Builtin.firstCells, Sem.run_pure]
        congr 1
        apply Array.ext'
        have hx : (s.extract 0 k).data.toList = s.data.toList.take k := by
          rw [ByteArray.data_extract]; simp
        simp [hx, List.map_take]
    · exact hw.elim
  rotate_left
  · rename_i n' w' f
    simp only [srcK] at hw
    obtain ⟨q, cap, rfl, hcap, hc⟩ := hy
    split at hw
    · rename_i hb
      have hb := Nat.eq_of_beq_eq_true hb
      subst hb
      rcases hc with hc | ⟨g, off, l, rfl, hf, hl, hps⟩
      · subst hc
        refine ⟨0, _, _, [], hw, ⟨by simp, fun i hi => by omega⟩, fun _ => rfl, fun k hk w1 _ => ?_, .inr ⟨_, _, _, rfl⟩, fun b e => by cases e⟩
        have : k = 0 := by omega
        subst this
        cases q <;> simp [Builtin.firstCells, loadCells, loadCellsFrom]
      · obtain ⟨C, ty', fr, l1, l4, h2, h3, h4⟩ := hf.heap hs
        refine ⟨n', f, none, l, hw, ⟨hl, fun i hi => PS.ext (ext0 ρ) _ _ (hps i hi)⟩, fun _ => rfl, fun k hk w1 hw1 => ?_, .inr ⟨_, _, _, rfl⟩, fun b e => by cases e⟩
        have hkl : k * m0 ≤ n' * m0 := Nat.mul_le_mul_right _ hk
        refine run_firstCells_some (P := P) w1 m0 k ⟨g, off, none⟩ n' cap _ (by rw [List.length_take]; omega) ?_
        rw [← h4]
        exact cells_read (w := w1) (by rw [hw1]; exact h2) (l3 := l.drop (k * m0) ++ l4) (by rw [h3, ← List.append_assoc (List.take _ _), List.take_append_drop])
    · exact hw.elim
  · rename_i p st w' len lo hi
    simp only [srcK] at hw
    obtain ⟨q, cap, rfl, hc⟩ := hy
    split at hw
    · split at hw
      · rename_i hb
        have hb := Nat.eq_of_beq_eq_true hb
        subst hb
        refine ⟨0, _, _, [], hw, ⟨by simp, fun i hi => by omega⟩, fun _ => rfl, fun k hk w1 _ => ?_, .inr ⟨_, _, _, rfl⟩, fun b e => by cases e⟩
        have : k = 0 := by omega
        subst this
        cases q <;> simp [Builtin.firstCells, loadCells, loadCellsFrom]
      · exact hw.elim
    · split at hw
      · rename_i hb
        have hb := Nat.eq_of_beq_eq_true hb
        subst hb
        rcases hc with ⟨c1, c2, c3⟩ | ⟨g, b, n', r1, rfl, r2, r3, r4, r5⟩
        · subst c1
          -- nothing is read
          have hw' := hw
          simp only [rdAt, Rd.wp, hgetK_eq] at hw
          cases hg : hget h p.blk with
          | none => simp [hg] at hw
          | some ob =>
            simp only [hg] at hw
            obtain ⟨s1, q1, q2⟩ := path_wp _ _ hw
            obtain ⟨s2, q3, q4⟩ := skip_wp _ _ q1
            cases s2 <;> try exact q3.elim
            simp only at q3
            split at q3
            · obtain ⟨q5, q6⟩ := q3
              refine ⟨0, _, _, [], q6, ⟨by simp, fun i hi => by omega⟩, fun _ => rfl, fun k hk w1 _ => ?_, .inr ⟨_, _, _, rfl⟩, fun b e => by cases e; exact ⟨ob, hg⟩⟩
              have : k = 0 := by omega
              subst this
              cases q <;> simp [Builtin.firstCells, loadCells, loadCellsFrom]
            · exact q3.elim
        · have hlive : ∃ o, hget h p.blk = some o := by
            simp only [rdAt, Rd.wp, hgetK_eq] at hw
            cases hg : hget h p.blk with
            | none => simp [hg] at hw
            | some ob => exact ⟨ob, rfl⟩
          obtain ⟨s, C, ty', fr, l1, l2, h1, h2, h3, h4, ⟨l3, l4, rfl, h5⟩, _⟩ := read_wp hs r1 hw
          cases s <;> try exact h1.elim
          rename_i m w2 f qq
          simp only at h1
          split at h1
          · rename_i hb2
            have hb2 := Nat.eq_of_beq_eq_true hb2
            subst hb2
            obtain ⟨h6, h7⟩ := h1
            obtain ⟨d1, d2, rfl, hch, _⟩ := rows_chunks h5
            have hsub := chunks_sub hch h6
            refine ⟨len, _, _, (d1.drop (st * m0)).take (len * m0), h7, hsub, fun _ => rfl, fun k hk w1 hw1 => ?_, .inr ⟨_, _, _, rfl⟩, fun b e => by cases e; exact hlive⟩
            have hk2 : k * m0 ≤ len * m0 := Nat.mul_le_mul_right m0 hk
            have e3 : (st + len) * m0 ≤ m * m0 := Nat.mul_le_mul_right m0 h6
            rw [Nat.add_mul] at e3
            have hd1 := hch.1
            have hl := hsub.1
            rw [run_firstCells_some (P := P) w1 m0 k ⟨g, b + (p.cell + st * m0), none⟩ len cap (((d1.drop (st * m0)).take (len * m0)).take (k * m0)) (by rw [List.length_take, hl]; omega)]
            have e4 : C.toList = (l1 ++ d1.take (st * m0)) ++ ((((d1.drop (st * m0)).take (len * m0)).take (k * m0)) ++ (((d1.drop (st * m0)).take (len * m0)).drop (k * m0) ++ ((d1.drop (st * m0)).drop (len * m0) ++ (d2 ++ l4)))) := by
              rw [h3]
              simp only [List.append_assoc]
              rw [← List.append_assoc (List.take (k * m0) _), List.take_append_drop, ← List.append_assoc (List.take (len * m0) _), List.take_append_drop, ← List.append_assoc (List.take (st * m0) _), List.take_append_drop]
            have e5 : (l1 ++ d1.take (st * m0)).length = b + (p.cell + st * m0) := by
              rw [List.length_append, h4, List.length_take, hd1]; omega
            rw [← e5]
            have := cells_read (w := w1) (by rw [hw1]; exact h2) e4
            exact this
          · exact h1.elim
      · exact hw.elim
theorem firstCells_all {Y : Value} {m m0 : Nat} {l : List Value} {w1 : World} (h : (Builtin.firstCells m0 m Y).run P w1 = .ok (l.take (m * m0)).toArray w1) (hl : l.length = m * m0) : (Builtin.firstCells m0 m Y).run P w1 = .ok l.toArray w1 := by
  rw [h, List.take_of_length_le (by omega)]
/-- Append, in room that is there. -/
theorem run_append_in (tS tX ty e : TypeId) (d : TypeDesc) (i : TypeInfo) (ht : P.underlying tS = some (.slice e)) (hX : P.underlying tX = some d) (hnd : d = .string ∨ ∃ e', d = .slice e') (hi : P.info? e = some i) (g o len cap m : Nat) (Y : Value) (l : List Value)
    (hlen : ∀ w1 : World, (Builtin.lenOf Y).run P w1 = .ok m w1) (hl : l.length = m * i.size) (hf : (Builtin.firstCells i.size m Y).run P w = .ok l.toArray w) (hroom : len + m ≤ cap) (h1 : ∀ x ∈ l, x.oneCell' = true)
    (hth : ∀ j, j < l.length → (w.cell? ⟨g, o + len * i.size + j, none⟩).isSome = true ∧ w.frozen? ⟨g, o + len * i.size + j, none⟩ = false) :
    (Builtin.append_ #[tS, tX] ty #[.slice (some ⟨g, o, none⟩) len cap, Y]).run P w = .ok (.slice (some ⟨g, o, none⟩) (len + m) cap) (w.setCells g (o + len * i.size) l) := by
  have hst := run_storeCells_cells (P := P) g (o + len * i.size) l 0 w (fun j hj => by simpa using (hth j hj).1) (fun j hj => by simpa using (hth j hj).2) h1
  simp only [Nat.add_zero] at hst
  rcases hnd with rfl | ⟨e', rfl⟩ <;> simp [Builtin.append_, run_underlying ht, run_underlying hX, sizeOf, typeInfo, hi, hlen, hroom, hf, Addr.add_mid, hst]
/-- Append of nothing. -/
theorem run_append_zero (tS tX ty e : TypeId) (d : TypeDesc) (i : TypeInfo) (ht : P.underlying tS = some (.slice e)) (hX : P.underlying tX = some d) (hnd : d = .string ∨ ∃ e', d = .slice e') (hi : P.info? e = some i) (p : Option Addr) (len cap : Nat) (Y : Value)
    (hlen : ∀ w1 : World, (Builtin.lenOf Y).run P w1 = .ok 0 w1) (hf : (Builtin.firstCells i.size 0 Y).run P w = .ok #[] w) (hroom : len ≤ cap) :
    (Builtin.append_ #[tS, tX] ty #[.slice p len cap, Y]).run P w = .ok (.slice p len cap) w := by
  rcases hnd with rfl | ⟨e', rfl⟩ <;> cases p <;> simp [Builtin.append_, run_underlying ht, run_underlying hX, sizeOf, typeInfo, hi, hlen, hroom, hf, storeCells]
/-- Append that makes a new row. -/
theorem run_append_new (tS tX ty e : TypeId) (d : TypeDesc) (i : TypeInfo) (z : Value) (ht : P.underlying tS = some (.slice e)) (hX : P.underlying tX = some d) (hnd : d = .string ∨ ∃ e', d = .slice e') (hi : P.info? e = some i) (hz : i.zero = some z) (p : Option Addr) (len cap m : Nat) (Y : Value) (l l0 : List Value)
    (hlen : ∀ w1 : World, (Builtin.lenOf Y).run P w1 = .ok m w1) (hl : l.length = m * i.size) (hf : ∀ w1 : World, w1.heap = w.heap → (Builtin.firstCells i.size m Y).run P w1 = .ok l.toArray w1)
    (hf0 : ∀ w1 : World, w1.heap = w.heap → (Builtin.firstCells i.size len (.slice p len cap)).run P w1 = .ok l0.toArray w1) (hno : cap < len + m) (hb : len + m ≤ 140737488351232) (hby : (len + m) * i.bytes ≤ 140737488351232) :
    ∃ c ex, len + m ≤ c ∧ ex.length = (c - (len + m)) * z.cells.size ∧ (Builtin.append_ #[tS, tX] ty #[.slice p len cap, Y]).run P w = .ok (.slice (some ⟨w.heap.size, 0, none⟩) (len + m) c) (w.drew.alloc (.cells (l0 ++ l ++ ex).toArray e)) := by
  have hn : ¬ (len + m ≤ cap) := by omega
  have h63' : ¬ (9223372036854775807 < ((len : Int) + (m : Int))) := by omega
  have h48' : ¬ (281474976710656 < Builtin.nextslicecap (len + m) cap * i.bytes) := by
    have := growslice_fits (need := len + m) (old := cap) (bytes := i.bytes) hno (by omega)
    omega
  have hf' := hf w.drew rfl
  have hf0' := hf0 w.drew rfl
  refine ⟨grownCap w (len + m) cap e, (Builtin.zeroCells z.cells (grownCap w (len + m) cap e - (len + m))).toList, grownCap_ge _ _ _ _, by rw [Array.length_toList, size_zeroCells], ?_⟩
  rcases hnd with rfl | ⟨e', rfl⟩ <;> simp [Builtin.append_, run_underlying ht, run_underlying hX, sizeOf, typeInfo, zeroValue, hi, hz, hlen, hn, h63', h48', Question.forced, hf', hf0', newRow, grownCap] <;> (congr 2; apply Array.ext'; simp)
theorem hset_hset (h : LHeap) (n : Nat) (x y : Option LObj) : hset (hset h n x) n y = hset h n y := by
  induction n generalizing h with
  | zero => cases h <;> rfl
  | succ n ih => cases h <;> simp [hset, ih]
/-- A row in the midst is written over. -/
theorem over_PS {segs : Segs} {p : List (Nat × Nat × Nat)} {off w k m at_ : Nat} {s1 : Segs} {rb rb2 : Segs → Segs} {f g : Nat → Segs} {q : Segs} {l : List Value} (h1 : PRepl segs p s1 rb) (h2 : Repl s1 off (.rows k w f q) rb2) (hch : Chunks ρ w m g l) (hk : at_ + m ≤ k) {lb : List Value} (hlb : PS ρ segs lb) :
    ∃ x1 x2 x3, lb = x1 ++ (x2 ++ x3) ∧ x1.length = pathSum p + off + at_ * w ∧ x2.length = l.length ∧ PS ρ (rb (rb2 (.rows k w (fun j => if at_ ≤ j ∧ j < at_ + m then g (j - at_) else f j) q))) (x1 ++ (l ++ x3)) := by
  obtain ⟨a1, a2, a3, rfl, e1, e2, e3⟩ := h1 ρ lb hlb
  obtain ⟨b1, b2, rfl, e4, e5, e6⟩ := h2 ρ a2 e2
  obtain ⟨d1, d2, rfl, hd1, hd2⟩ := rows_chunks e5
  have ho := chunks_over hd1 hch hk
  have e7 : (at_ + m) * w ≤ k * w := Nat.mul_le_mul_right _ hk
  rw [Nat.add_mul] at e7
  have hd1l := hd1.1
  have hll := hch.1
  have hsplit : d1 = d1.take (at_ * w) ++ ((d1.drop (at_ * w)).take (m * w) ++ d1.drop (at_ * w + m * w)) := by
    rw [← List.drop_drop, List.take_append_drop, List.take_append_drop]
  have hpq : PS ρ (.rows k w (fun j => if at_ ≤ j ∧ j < at_ + m then g (j - at_) else f j) q) ((d1.take (at_ * w) ++ l ++ d1.drop (at_ * w + m * w)) ++ d2) := by
    obtain ⟨ls, l', e, r1, r2, r3⟩ := chunks_rows ho
    have r3 : l' = [] := r3
    subst r3
    exact ⟨ls, d2, by rw [e]; simp, r1, r2, hd2⟩
  refine ⟨a1 ++ b1 ++ d1.take (at_ * w), (d1.drop (at_ * w)).take (m * w), d1.drop (at_ * w + m * w) ++ d2 ++ a3, ?_, ?_, ?_, ?_⟩
  · conv => lhs; rw [hsplit]
    simp
  · simp only [List.length_append, List.length_take, e1, e4, hd1l]; omega
  · simp only [List.length_take, List.length_drop, hd1l, hll]; omega
  · have := e3 ρ _ _ (Ext.refl ρ) (e6 ρ _ _ (Ext.refl ρ) hpq) (by simp only [List.length_append, List.length_take, List.length_drop, hd1l, hll]; omega)
    simpa using this
def appRd (n w bytes : Nat) (e : TypeId) (x y : LVal) : Rd :=
  match x with
  | .slice p st w' len lo hi => srcK w y fun m g yb => match Nat.beq w' 0 with
    | true => match Nat.beq len 0, Nat.beq lo 0, hi with
      | true, true, some 0 => .need (m ≤ 140737488351232 ∧ m * bytes ≤ 140737488351232) (.ret (.slice ⟨n, [], 0⟩ 0 w m m none) [] (some ⟨.rows m w g .nil, e, true, false⟩))
      | _, _, _ => .fail
    | false => match Nat.beq w w' with
      | false => .fail
      | true => match (match yb with | some b => Nat.beq b p.blk | none => false) with
        | true => .obj p.blk fun o => match o.ro with
          | true => .fail
          | false => pmodK p.path o.segs (fun s K => atK s p.off (fun s1 K1 => match s1 with
            | .rows k w2 f q => match Nat.beq w w2 with
              | true => .need (len + m ≤ lo ∧ st + len + m ≤ k) (K1 (.rows k w (fun j => if st + len ≤ j ∧ j < st + len + m then g (j - (st + len)) else f j) q))
              | false => .fail
            | _ => .fail) K .fail) fun s' => .ret (.slice p st w (len + m) lo hi) [(p.blk, some ⟨s', o.ty, o.more, false⟩)] none
        | false => match p.path, p.off with
          | [], 0 => .obj p.blk fun o => match o.ro, o.segs with
            | false, .rows k w2 f .nil => match Nat.beq w w2, Nat.beq o.ty e with
              | true, true => .need (st + len ≤ k ∧ len + m ≤ 140737488351232 ∧ (len + m) * bytes ≤ 140737488351232) (.ret (.slice ⟨n, [], 0⟩ 0 w (len + m) (len + m) none) [(p.blk, none)] (some ⟨.rows (len + m) w (fun i => if i < len then f (st + i) else g (i - len)) .nil, e, true, false⟩))
              | _, _ => .fail
            | _, _ => .fail
          | _, _ => .fail
  | _ => .fail
theorem append_exec {X Y : Operand} {tS tX : TypeId} {o : Oper} (ho : o.op = .call ⟨.builtin .append, #[X, Y], #[tS, tX]⟩) {v : Value} {w' : World} (h : (Builtin.append_ #[tS, tX] o.type #[a.eval X, a.eval Y]).run P w = .ok v w') : (execOp a.eval o).run P w = .ok (.value v) w' := by
  unfold execOp
  simp [ho, resolve, invoke, builtin, h]
theorem append_sound (X Y : Operand) (tS tX e : TypeId) (d : TypeDesc) (i : TypeInfo) (z : Value) (o : Oper) (ho : o.op = .call ⟨.builtin .append, #[X, Y], #[tS, tX]⟩) (ht : P.underlying tS = some (.slice e)) (hX : P.underlying tX = some d) (hnd : d = .string ∨ ∃ e', d = .slice e') (hi : P.info? e = some i) (hz : i.zero = some z) (hzs : z.cells.size = i.size) (h0 : i.size ≠ 0)
    (hs : Sim T w0 ρ h w) (hn : ρ n = none) (hh : hget h n = none) {v y : LVal} (hv : PV ρ v (a.eval X)) (hy : PV ρ y (a.eval Y)) (hw : (appRd n i.size i.bytes e v y).wp t h Φ) : Res P o a w T w0 ρ h n Φ := by
  cases v <;> try exact hw.elim
  rename_i p st w' len lo hi'
  obtain ⟨q, cap, ex, hc⟩ := hv
  simp only [appRd] at hw
  obtain ⟨m, g, yb, l, h1, hch, hlen, hfc, _, hyb⟩ := src_wp hs hy hw
  have hl := hch.1
  have hall : ∀ w1 : World, w1.heap = w.heap → (Builtin.firstCells i.size m (a.eval Y)).run P w1 = .ok l.toArray w1 := fun w1 e1 => firstCells_all (hfc m (Nat.le_refl _) w1 e1) hl
  have hone := PS.oneCells _ _ (chunks_rows hch)
  have zero : m = 0 → l = [] := fun e1 => List.eq_nil_of_length_eq_zero (by rw [hl, e1]; simp)
  have hbase : ∀ w1 : World, w1.heap = w.heap → (Builtin.firstCells i.size 0 (.slice q 0 cap)).run P w1 = .ok ([] : List Value).toArray w1 := fun w1 _ => by cases q <;> simp [Builtin.firstCells, loadCells, loadCellsFrom]
  -- a row of its own: what was there, and what comes
  have fresh : ∀ (l0 : List Value) (f : Nat → Segs), Chunks ρ i.size len f l0 → (∀ w1 : World, w1.heap = w.heap → (Builtin.firstCells i.size len (.slice q len cap)).run P w1 = .ok l0.toArray w1) → cap < len + m → len + m ≤ 140737488351232 → (len + m) * i.bytes ≤ 140737488351232 →
      ∀ (h2 : LHeap) (f2 : Nat → Segs), Sim T w0 ρ h2 w → hget h2 n = none → (∀ j, j < len + m → (if j < len then f j else g (j - len)) = f2 j) →
      ∃ x ρ' w', (execOp a.eval o).run P w = .ok (.value x) w' ∧ Ext ρ ρ' ∧ (∀ k, k ≠ n → ρ' k = ρ k) ∧ PV ρ' (.slice ⟨n, [], 0⟩ 0 i.size (len + m) (len + m) none) x ∧ Sim T w0 ρ' (hset h2 n (some ⟨.rows (len + m) i.size f2 .nil, e, true, false⟩)) w' := by
    intro l0 f c1 c2 c3 c4 c5 h2 f2 hs2 hh2 hf2
    obtain ⟨c, exx, e1, e2, e3⟩ := run_append_new (w := w) tS tX o.type e d i z ht hX hnd hi hz q len cap m (a.eval Y) l l0 hlen hl hall c2 c3 c4 c5
    have hc2 := chunks_congr (chunks_append c1 hch) hf2
    refine ⟨_, ρ.put n (w.heap.size, 0, (l0 ++ l ++ exx).length), _, append_exec ho (by rw [ex]; exact e3), Pl.put_ext hn _, fun k hk => by rw [Pl.put_at, if_neg hk], ?_, ?_⟩
    · refine ⟨_, _, rfl, .inr ⟨w.heap.size, 0, (l0 ++ l ++ exx).length, by simp [Pl.put], by simp [LAddr.cell, pathSum], Nat.le_refl _, e1, (fun x hx => by cases hx), ?_⟩⟩
      have hc2l := hc2.1
      simp only [LAddr.cell, pathSum, Nat.zero_add, List.length_append] at hc2l ⊢
      rw [hc2l, e2, hzs, ← Nat.add_mul]
      rw [show len + m + (c - (len + m)) = c by omega]
      exact Nat.le_refl _
    · have := hs2.drew.alloc (n := n) (o := ⟨.rows (len + m) i.size f2 .nil, e, true, false⟩) (l := l0 ++ l) (ex := exx) (fr := (0, 0)) hn hh2 rfl rfl (chunks_rows hc2) (fun hx => by cases hx) (unfrozen0 _)
      exact this
  split at h1
  · split at h1
    · rename_i hb1 hb2 hb3
      have hb2 := Nat.eq_of_beq_eq_true hb2
      have hb3 := Nat.eq_of_beq_eq_true hb3
      subst hb2 hb3
      obtain ⟨⟨h2, h3⟩, h4⟩ := h1
      have hcap : cap = 0 := by
        rcases hc with ⟨_, _, c3⟩ | ⟨_, _, _, _, _, _, _, c3, _⟩
        · exact c3
        · have := c3 0 rfl; omega
      subst hcap
      by_cases hm : m = 0
      · subst hm
        have hl0 := zero rfl
        subst hl0
        refine ⟨_, _, _, .slice q 0 0, ρ, w, h4, .inl ?_, Ext.refl ρ, fun _ _ => rfl, ⟨q, 0, rfl, .inl ⟨rfl, rfl, rfl⟩⟩, ?_⟩
        · exact append_exec ho (by rw [ex]; exact run_append_zero tS tX o.type e d i ht hX hnd hi q 0 0 _ hlen (hall w rfl) (Nat.le_refl _))
        · exact hs.empty hn hh (chunks_rows hch)
      · obtain ⟨x, ρ', w', e1, e2, e3, e4, e5⟩ := fresh [] (fun _ => .nil) ⟨by simp, fun j hj => by omega⟩ hbase (by omega) (by omega) (by simpa using h3) h g hs hh (fun j hj => by simp)
        rw [Nat.zero_add] at e4 e5
        exact ⟨_, _, _, x, ρ', w', h4, .inl e1, e2, fun k hk => e3 k (hk.resolve_right (by simp)), e4, e5⟩
    · exact h1.elim
  · split at h1
    · exact h1.elim
    · rename_i hw0 hw1
      have hw1 := Nat.eq_of_beq_eq_true hw1
      subst hw1
      split at h1
      · -- in place
        simp only [Rd.wp, hgetK_eq] at h1
        cases hg : hget h p.blk with
        | none => simp [hg] at h1
        | some ob =>
          simp only [hg] at h1
          split at h1
          · exact h1.elim
          rename_i hro
          obtain ⟨s1, rb, h2, h3⟩ := pmod_wp _ _ _ h1
          obtain ⟨s2, rb2, h4, h5⟩ := at_wp _ _ _ h2
          cases s2 <;> try exact h4.elim
          rename_i k w2 f qq
          simp only at h4
          split at h4
          · rename_i hb
            have hb := Nat.eq_of_beq_eq_true hb
            subst hb
            obtain ⟨⟨h6, h7⟩, h8⟩ := h4
            rcases hc with ⟨c1, c2, c3⟩ | ⟨g', b, n', r1, rfl, r2, r3, r4, r5⟩
            · -- nothing comes, nothing is there
              have hm : m = 0 := by omega
              subst hm
              have hl0 := zero rfl
              subst hl0
              subst c1 c2 c3
              refine ⟨_, _, _, .slice q 0 0, ρ, w, h8, .inl ?_, Ext.refl ρ, fun _ _ => rfl, ⟨q, 0, rfl, .inl ⟨rfl, rfl, rfl⟩⟩, ?_⟩
              · exact append_exec ho (by rw [ex]; exact run_append_zero tS tX o.type e d i ht hX hnd hi q 0 0 _ hlen (hall w rfl) (Nat.le_refl _))
              · simp only [applyU, updU]
                rcases hs.obj _ _ hg with ⟨g2, b2, n2, obj, e1, e2, e3, hT⟩ | ⟨e1, e2⟩
                · obtain ⟨pre, lr, exx, fr, rfl, hlr, hmore, hpre, hn2, hfr⟩ := e3
                  obtain ⟨x1, x2, x3, rfl, _, f2, f3⟩ := over_PS (at_ := st + 0) (m := 0) h3 h5 hch h7 hlr
                  have f2 : x2 = [] := List.eq_nil_of_length_eq_zero (by simpa using f2)
                  subst f2
                  exact hs.turn (o' := ⟨_, ob.ty, ob.more, false⟩) hro rfl hg e1 ⟨pre, _, exx, fr, rfl, f3, hmore, hpre, hn2, fun _ => hfr hro⟩ e2 rfl (fun _ _ => rfl) rfl rfl rfl
                · obtain ⟨x1, x2, x3, f1, _, f2, f3⟩ := over_PS (at_ := st + 0) (m := 0) h3 h5 hch h7 (e2.ps hro)
                  have f2 : x2 = [] := List.eq_nil_of_length_eq_zero (by simpa using f2)
                  subst f2
                  have f1 := f1.symm
                  rw [f1] at f3
                  have := (hs.kill p.blk).empty e1 (by rw [hget_hset, if_pos rfl]) (o := ⟨_, ob.ty, ob.more, false⟩) f3
                  rw [hset_hset] at this
                  exact this
            · rcases hs.obj _ _ hg with ⟨g2, b2, n2, obj, e1, e2, e3, hT⟩ | ⟨e1, _⟩
              · rw [r1] at e1
                cases e1
                obtain ⟨pre, lr, exx, fr, rfl, hlr, hmore, hpre, hn2, hfr⟩ := e3
                obtain ⟨x1, x2, x3, rfl, f1, f2, f3⟩ := over_PS (at_ := st + len) (m := m) h3 h5 hch h7 hlr
                have hoff : (pre ++ x1).length = b + (p.cell + st * i.size) + len * i.size := by
                  rw [List.length_append, hpre, f1, Nat.add_mul]; simp only [LAddr.cell]; omega
                have hC : (pre ++ (x1 ++ (x2 ++ x3)) ++ exx).toArray.toList = (pre ++ x1) ++ (x2 ++ (x3 ++ exx)) := by simp
                have hCs : (pre ++ (x1 ++ (x2 ++ x3)) ++ exx).toArray.size = (pre ++ x1).length + x2.length + x3.length + exx.length := by simp; omega
                obtain ⟨k1, k2, k3, k4, k5, k6⟩ := setCells_heap g' l w (b + (p.cell + st * i.size) + len * i.size) _ _ _ e2 (by rw [hCs, hoff]; omega)
                rw [hC, splice f2.symm hoff.symm] at k1
                have hr := run_append_in (w := w) tS tX o.type e d i ht hX hnd hi g' (b + (p.cell + st * i.size)) len cap m _ l hlen hl (hall w rfl) (by omega) hone (fun j hj => by
                  have hj2 : b + (p.cell + st * i.size) + len * i.size + j < (pre ++ (x1 ++ (x2 ++ x3)) ++ exx).toArray.size := by rw [hCs, hoff]; omega
                  refine ⟨?_, unfrozen_at e2 (by simpa using hfr hro) hj2⟩
                  rw [cell_of_row w g' _ _ _ _ e2, Array.getElem?_eq_getElem hj2]
                  rfl)
                refine ⟨_, _, _, _, ρ, _, h8, .inl (append_exec ho (by rw [ex]; exact hr)), Ext.refl ρ, fun _ _ => rfl, ?_, ?_⟩
                · exact ⟨_, _, rfl, .inr ⟨g', b, n', r1, rfl, h6, r3, r4, r5⟩⟩
                · simp only [applyU, updU]
                  refine hs.turn hro rfl hg r1 ?_ k1 k2 k3 k4 k5 k6
                  refine ⟨pre, x1 ++ (l ++ x3), exx, fr, by simp, f3, hmore, hpre, ?_, ?_⟩
                  · rw [hn2]; simp [f2]
                  · intro _ y hy'; exact hfr hro y (by simp only [List.length_append, f2] at hy' ⊢; omega)
              · rw [r1] at e1; cases e1
          · exact h4.elim
      · -- the row is its own again
        split at h1
        · rename_i hp1 hp2
          simp only [Rd.wp, hgetK_eq] at h1
          cases hg : hget h p.blk with
          | none => simp [hg] at h1
          | some ob =>
            simp only [hg] at h1
            split at h1
            · rename_i k w2 f hro hseg
              split at h1
              · rename_i hb1 hb2
                have hb1 := Nat.eq_of_beq_eq_true hb1
                have hb2 := Nat.eq_of_beq_eq_true hb2
                subst hb1
                obtain ⟨⟨h2, h3, h4⟩, h5⟩ := h1
                have hne : n ≠ p.blk := by intro c; subst c; rw [hg] at hh; cases hh
                have hs2 := hs.kill p.blk
                have hh2 : hget (hset h p.blk none) n = none := by rw [hget_hset, if_neg hne]; exact hh
                rcases hc with ⟨c1, c2, c3⟩ | ⟨g', b, n', r1, rfl, r2, r3, r4, r5⟩
                · subst c1 c2 c3
                  by_cases hm : m = 0
                  · subst hm
                    have hl0 := zero rfl
                    subst hl0
                    refine ⟨_, _, _, .slice q 0 0, ρ, w, h5, .inl ?_, Ext.refl ρ, fun _ _ => rfl, ⟨q, 0, rfl, .inl ⟨rfl, rfl, rfl⟩⟩, ?_⟩
                    · exact append_exec ho (by rw [ex]; exact run_append_zero tS tX o.type e d i ht hX hnd hi q 0 0 _ hlen (hall w rfl) (Nat.le_refl _))
                    · exact hs2.empty hn hh2 (chunks_rows (n := 0) ⟨by simp, fun j hj => by omega⟩)
                  · obtain ⟨x, ρ', w', e1, e2, e3, e4, e5⟩ := fresh [] (fun _ => .nil) ⟨by simp, fun j hj => by omega⟩ hbase (by omega) (by omega) h4 _ (fun i => if i < 0 then f (st + i) else g (i - 0)) hs2 hh2 (fun j hj => by simp)
                    exact ⟨_, _, _, x, ρ', w', h5, .inl e1, e2, fun k hk => e3 k (hk.resolve_right (by simp)), e4, e5⟩
                · rcases hs.obj _ _ hg with ⟨g2, b2, n2, obj, e1, e2, e3, hT⟩ | ⟨e1, _⟩
                  · rw [r1] at e1
                    cases e1
                    have hcell : p.cell = 0 := by simp [LAddr.cell, hp1, hp2, pathSum]
                    obtain ⟨pre, lr, exx, fr, rfl, hlr, hmore, hpre, hn2, hfr⟩ := e3
                    rw [hseg] at hlr
                    obtain ⟨d1, d2, rfl, hd1, hd2⟩ := rows_chunks hlr
                    have hd2 : d2 = [] := hd2
                    subst hd2
                    rw [List.append_nil] at *
                    have hd1l := hd1.1
                    have e4 : (st + len) * i.size ≤ k * i.size := Nat.mul_le_mul_right _ h2
                    rw [Nat.add_mul] at e4
                    have hsub := chunks_sub hd1 h2
                    have hold : (pre ++ d1 ++ exx) = (pre ++ d1.take (st * i.size)) ++ ((d1.drop (st * i.size)).take (len * i.size) ++ ((d1.drop (st * i.size)).drop (len * i.size) ++ exx)) := by
                      rw [← List.append_assoc (List.take (len * i.size) _), List.take_append_drop, List.append_assoc pre (List.take _ _), ← List.append_assoc (List.take (st * i.size) _), List.take_append_drop, List.append_assoc]
                    have e5 : (pre ++ d1.take (st * i.size)).length = b + (p.cell + st * i.size) := by
                      rw [List.length_append, hpre, List.length_take, hd1l, hcell]; omega
                    by_cases hroom : len + m ≤ cap
                    · -- the room is there
                      have hm3 : (st + cap) * i.size ≤ n' := by rw [hcell] at r5; omega
                      have hm4 : (len + m) * i.size ≤ cap * i.size := Nat.mul_le_mul_right _ hroom
                      rw [Nat.add_mul] at hm3 hm4
                      have hspl : ∃ u1 u2, (d1.drop (st * i.size)).drop (len * i.size) ++ exx = u1 ++ u2 ∧ u1.length = l.length := by
                        refine ⟨_, _, (List.take_append_drop l.length _).symm, ?_⟩
                        rw [List.length_take]
                        apply Nat.min_eq_left
                        simp only [List.length_append, List.length_drop, hd1l, hl]
                        simp only [List.length_append] at hn2
                        omega
                      obtain ⟨u1, u2, hu, hul⟩ := hspl
                      rw [hu] at hold
                      have hCsz : (pre ++ d1 ++ exx).toArray.size = (pre ++ d1.take (st * i.size)).length + len * i.size + l.length + u2.length := by
                        rw [hold]
                        simp only [List.size_toArray, List.length_append, hul, List.length_take, List.length_drop, hd1l]
                        omega
                      obtain ⟨f1, f2, f3, f4, f5, f6⟩ := setCells_heap g' l w (b + (p.cell + st * i.size) + len * i.size) _ _ _ e2 (by rw [hCsz, e5]; omega)
                      have hdisp : (List.take (b + (p.cell + st * i.size) + len * i.size) (pre ++ d1 ++ exx).toArray.toList ++ l ++ List.drop (b + (p.cell + st * i.size) + len * i.size + l.length) (pre ++ d1 ++ exx).toArray.toList) = (pre ++ d1.take (st * i.size)) ++ ((d1.drop (st * i.size)).take (len * i.size) ++ l) ++ u2 := by
                        rw [show (pre ++ d1 ++ exx).toArray.toList = pre ++ d1 ++ exx from rfl, hold, ← List.append_assoc, splice (by rw [hul]) (by rw [List.length_append, e5, hsub.1])]
                        simp
                      rw [hdisp] at f1
                      have hs3 := hs.turn (o' := ⟨.nil, ob.ty, true, false⟩) hro rfl hg r1 (ob' := _) ?_ f1 f2 f3 f4 f5 f6
                      · have hs4 := hs3.inherit (n := p.blk) (o := ⟨.nil, ob.ty, true, false⟩) rfl (by rw [hget_hset, if_pos rfl]) r1 hn (by rw [hget_hset, if_neg hne]; exact hh) (b' := b + (p.cell + st * i.size)) (m' := ((d1.drop (st * i.size)).take (len * i.size) ++ l ++ u2).length) (o' := ⟨.rows (len + m) i.size (fun j => if j < len then f (st + j) else g (j - len)) .nil, ob.ty, true, false⟩) rfl f1 ?_
                        · rw [hset_hset] at hs4
                          have hr := run_append_in (w := w) tS tX o.type e d i ht hX hnd hi g' (b + (p.cell + st * i.size)) len cap m _ l hlen hl (hall w rfl) hroom hone (fun j hj => by
                            have hj2 : b + (p.cell + st * i.size) + len * i.size + j < (pre ++ d1 ++ exx).toArray.size := by rw [hCsz, e5]; omega
                            refine ⟨?_, unfrozen_at e2 (by simpa using hfr hro) hj2⟩
                            rw [cell_of_row w g' _ _ _ _ e2, Array.getElem?_eq_getElem hj2]
                            rfl)
                          refine ⟨_, _, _, _, ρ.put n (g', b + (p.cell + st * i.size), ((d1.drop (st * i.size)).take (len * i.size) ++ l ++ u2).length), _, h5, .inl (append_exec ho (by rw [ex]; exact hr)), Pl.put_ext hn _, fun y hy' => by rw [Pl.put_at, if_neg (hy'.resolve_right (by simp))], ?_, ?_⟩
                          · refine ⟨_, _, rfl, .inr ⟨g', _, _, by simp only [Pl.put, if_pos]; rfl, by simp [LAddr.cell, pathSum], Nat.le_refl _, hroom, (fun x hx => by cases hx), ?_⟩⟩
                            simp only [LAddr.cell, pathSum, Nat.zero_add, List.length_append, hsub.1, hl]
                            have := congrArg List.length hold
                            simp only [List.length_append, hsub.1, hul, hl, List.length_take, hd1l] at this
                            simp only [List.length_append, hd1l] at hn2
                            omega
                          · subst hb2
                            exact hs4
                        · refine ⟨pre ++ d1.take (st * i.size), (d1.drop (st * i.size)).take (len * i.size) ++ l, u2, fr, by simp, chunks_rows (chunks_append hsub hch), (fun x => by cases x), e5, rfl, ?_⟩
                          intro _ y hy'
                          refine hfr hro y ?_
                          rw [hold]
                          simp only [List.length_append, hul] at hy' ⊢
                          omega
                      · refine ⟨pre, [], d1.take (st * i.size) ++ ((d1.drop (st * i.size)).take (len * i.size) ++ l) ++ u2, fr, by simp, rfl, (fun x => by cases x), hpre, ?_, ?_⟩
                        · rw [hn2]
                          have := congrArg List.length hold
                          simp only [List.length_append, hul, List.length_nil] at this ⊢
                          omega
                        · intro _ y hy'
                          refine hfr hro y ?_
                          rw [hold]
                          simp only [List.length_append, hul, List.append_nil] at hy' ⊢
                          omega
                    · have hf0 : ∀ w1 : World, w1.heap = w.heap → (Builtin.firstCells i.size len (.slice (some ⟨g', b + (p.cell + st * i.size), none⟩) len cap)).run P w1 = .ok ((d1.drop (st * i.size)).take (len * i.size)).toArray w1 := by
                        intro w1 hw1
                        refine run_firstCells_some (P := P) w1 i.size len ⟨g', b + (p.cell + st * i.size), none⟩ len cap _ hsub.1 ?_
                        rw [← e5]
                        exact cells_read (w := w1) (by rw [hw1]; exact e2) (by rw [← hold])
                      obtain ⟨x, ρ', w', k1, k2, k3, k4, k5⟩ := fresh _ (fun j => f (st + j)) hsub hf0 (by omega) h3 h4 _ _ hs2 hh2 (fun j _ => rfl)
                      exact ⟨_, _, _, x, ρ', w', h5, .inl k1, k2, fun j hj => k3 j (hj.resolve_right (by simp)), k4, k5⟩
                  · rw [r1] at e1; cases e1
              · exact h1.elim
            · exact h1.elim
        · exact h1.elim
end
end Go.Proofs.Ytilmfhpoiejmfaa.Lh
